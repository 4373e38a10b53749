/- ShowPatterns: the text and the tree of any pattern are the reference ones, and the pattern stays as it is -/
import Derived.Test.YtdoefdmaecaacaaGreatDoorRows
import Derived.Test.YtdoefdmaecaacaaGreatDoorCards
import Derived.Test.YtdoefdmaecaacaaGreatDoorTie
import Derived.Test.YtdoefdmaecaacaaGreatDoorAmLaid
import Derived.Test.YtdoefdmaecaacaaGreatDoorAmOpen
import Derived.Test.YtdoefdmaecaacaaGreatDoorS8
import Derived.WalkKit
import Derived.LaidMore
import Derived.Stop.Joined
import Derived.SevenTiedAt
import Derived.ProofKit
import Derived.OpenShut
import Derived.ShutString
import Derived.ChangeOld
import Derived.Below
import Derived.SizedLaws
namespace Go.Proofs.YtdoefdmaecaacaaGreatDoor.showPatterns
open Go.ChangeShapes Go.WideShapes Go.ChangeAt Go.RowKit
open Go.ChangeMaps (open_string shut_string)
set_option linter.unusedVariables false
theorem laid : laidOutB Tryz.prog = true := by kernel_rfl
def shapes : List TypeId := [23, 49, 3, 9, 47, 45]
theorem shapes_ok : AM.okS Tryz.prog shapes = true := by kernel_rfl
theorem own : ownKnob Tryz.prog.godebug = none := by kernel_rfl
/-- The door's own heap meets the condition: three closed facts. -/
theorem door_met (os : Os) (args : Array Value) : laidMetH Tryz.prog Rows.showPatternsRow.laid ((World.doorLaid Tryz.prog 400 os).forCall (fun _ _ => 0) ⟨#[], args, []⟩).memory :=
  laidMetH_of_parts3 (fuel := 8) (laidMet_of_run' 8 (by kernel_rfl) (by kernel_rfl)) (by kernel_rfl) (by kernel_rfl)
set_option maxRecDepth 100000 in
theorem of_laid {W : World} (h : laidMetH Tryz.prog Rows.showPatternsRow.laid W) : AM.CxOK S.cxT AM.env0 W := by
  rw [MakeChecks.laidMetH_plain _ _ _ (by kernel_rfl)] at h
  obtain ⟨ps, ⟨g5, t5, cs5, f5, p5, q5, hg5, ht5, hv5, hd5, ⟨g2, t2, cs2, f2, p2, q2, hg2, ht2, hv2, hd2, ⟨g4, t4, cs4, f4, p4, q4, hg4, ht4, hv4, hd4, ⟨g1, t1, cs1, f1, p1, q1, hg1, ht1, hv1, hd1, ⟨g0, t0, cs0, f0, p0, q0, hg0, ht0, hv0, hd0, _, _⟩, _⟩, _⟩, _⟩, _⟩, _, _⟩ := h
  have e2 : (Tryz.prog.globals[2]?).map (·.type) = some 181 := by kernel_rfl
  have e0 : (Tryz.prog.globals[0]?).map (·.type) = some 150 := by kernel_rfl
  obtain rfl := Option.some.inj ((show Tryz.prog.globalNamed "math/bits.deBruijn64tab" = some 2 by kernel_rfl).symm.trans hg2)
  obtain rfl := Option.some.inj (e2.symm.trans ht2)
  obtain rfl := Option.some.inj ((show Tryz.prog.globalNamed "strings.asciiSpace" = some 0 by kernel_rfl).symm.trans hg0)
  obtain rfl := Option.some.inj (e0.symm.trans ht0)
  refine AM.cx_ok fun g cs hg => ?_
  simp only [S.cxT] at hg
  split at hg
  · rename_i e; subst e; obtain rfl := Option.some.inj hg; exact S.deB_glob hv2 hd2 rfl
  split at hg
  · rename_i e; subst e; obtain rfl := Option.some.inj hg; exact S.asc_glob hv0 hd0 rfl
  · cases hg
set_option maxRecDepth 100000 in
theorem lifted (os : Os) (started : os.Started) (H : Type) (enc : TypeId × Value → H) :
    ReturnsInHanded {} Tryz.checked os 3 .any (fun w args => (Rows.showPatternsSpec.pre enc Tryz.prog Tryz.f3 Rows.showPatternsRow.domain false w args ∧ laidMetH Tryz.prog Rows.showPatternsRow.laid w) ∧ sizedMet enc Tryz.prog Tryz.f3 (OpenSpec.ofChange Rows.showPatternsSpec) false w args) (Rows.showPatternsSpec.post enc Tryz.prog Tryz.f3 false true false false) := by
  refine returnsInHanded_of_change_and (C := Tryz.checked) (X := fun w _ => laidMetH Tryz.prog Rows.showPatternsRow.laid w) (fun _ _ _ hh h => h.of_heap hh) own started (by kernel_rfl) Tryz.func3
    (ChangeSpec.witness_shaped (enc := enc) (C := Tryz.checked) (os := os) (X := fun w _ => laidMetH Tryz.prog Rows.showPatternsRow.laid w) false (World.doorLaid Tryz.prog 400 os) #[.slice none 0 0] 8 rfl (World.shaped_of_RefB (by kernel_rfl) (by kernel_rfl)) (by kernel_rfl) (by kernel_rfl) (by kernel_rfl) (door_met os _)) ?_
  intro W base args ds gs before hval0 hW hcnd hsz0 hL _
  have hsz : (DataW.weightsEach Tryz.prog (Tryz.f3.params.toList ++ Rows.showPatternsSpec.plain.varTypes Tryz.prog) (ds ++ gs)).all (· ≤ reachBytes) = true := hsz0
  have hval : ∀ (j : Nat) t v, Tryz.f3.params[j]? = some t → args[j]? = some v → Value.okWide Tryz.prog W .any base t v := hval0
  have hW' := hW
  obtain ⟨p, q, hA0, hV, rfl, hfz, hnd⟩ := hW
  have hA : DataW.TrodAll enc Tryz.prog W 0 (fun _ => true) true Tryz.f3.params.toList args.toList ds p := hA0
  rw [Tryz.params3] at hA hval hsz
  obtain ⟨v0, vs0, d0, ds0, p0, q0, hargs, rfl, rfl, h0, r0⟩ := trodAll_cons hA
  obtain ⟨rfl, rfl, rfl⟩ := trodAll_nil r0
  obtain rfl : args = #[v0] := by cases args; simp_all
  obtain ⟨rfl, rfl⟩ := trodVars_none hV
  have k0 := h0
  obtain ⟨l0, t0, g0⟩ := AM.open_arg shapes_ok laid (t := 23) (by simp [shapes]) h0 (fun n hn => by
    have z := List.all_eq_true.1 hsz n (DataW.weights_mem_each (j := 0) rfl rfl n hn)
    simpa using z)
  have lt0 : ∀ x ∈ p0, x.block < W.heap.size := fun x hx => by have z := hW'.lt x (by simp [hx]); simpa using z
  clear hA0 hval0 hsz0 hsz
  obtain ⟨c0, sp0, rfl, ok0, len0⟩ := S.pat_of t0
  have x0 := AM.arg_one g0 (fun cs hc => by obtain ⟨a, l, c, e⟩ := okWide_slice Tryz.underlying23 (hval 0 23 v0 rfl rfl); rw [hc] at e; cases e)
  refine (AM.calls_of_R (S.r3S c0 sp0 ok0 len0) (of_laid hL) (.cons x0 .nil)).mono fun e W' ⟨he, bel⟩ => ?_
  subst he
  exact ⟨_, rfl, _, _, _, [], _, [], hW', trodAll_mk1 (shut_bool Tryz.underlying4 _), (trodAll_cons_mk (Below.trod laid (by kernel_rfl) (of_decide_eq_true (by kernel_rfl)) k0 bel lt0) trodAll_mk0), rfl, bel.frame _, fun h => by cases h⟩
theorem over : Rows.showPatternsRow.holds Tryz.pinned (OpenSpec.ofChange Rows.showPatternsSpec) :=
  OpenClaim.holds_of_wide 3 Tryz.f3 rfl rfl rfl rfl rfl rfl rfl ⟨rfl, rfl, rfl, rfl, rfl⟩ rfl rfl rfl rfl rfl (by kernel_rfl) Tryz.func3 (by kernel_rfl)
    (of_decide_eq_true (by kernel_rfl)) (by unfold Func.isWrapper; first | (rw [if_pos (by decide +kernel)]; kernel_rfl) | (rw [if_neg (by decide +kernel)]; exact ⟨rfl, rfl⟩))
    (fun os started H enc _ => lifted os started H enc)
theorem proved : Rows.ShowPatternsSaid := over
theorem card : Rows.ShowPatternsCardSaid :=
  Claim7.holds_tied_plain_at .later [] [.data, .data, .data, .listed, .data] true (true, "24b3c685db64ab1dd1a73cffd77059262886032e9aadb26e12acb78b112b0daa") true
    over (fun _ h => by cases h) (by kernel_rfl) (fun _ h => by cases h) showPatterns_row_tie rfl ⟨rfl, rfl⟩ (by kernel_rfl) rfl
    (fun f fn hf hfn => by
      obtain rfl : f = 3 := Option.some.inj ((show Tryz.prog.funcNamed "harrow/harrowlaw07.ShowPatterns" = some 3 by kernel_rfl).symm.trans hf) |>.symm
      obtain rfl : fn = Tryz.f3 := (Option.some.inj (Tryz.func3.symm.trans hfn)).symm
      exact ⟨by kernel_rfl, fun j t ht => by
        rw [Tryz.params3] at ht
        have hm : t ∈ [23] := by simpa using Array.mem_of_getElem? ht
        have hall : ([23].all fun u => !Tryz.prog.wantsStandIn u) = true := by kernel_rfl
        exact (show Tryz.prog.wantsStandIn t = false by simpa using List.all_eq_true.1 hall t hm)⟩)
    (by kernel_rfl)
end Go.Proofs.YtdoefdmaecaacaaGreatDoor.showPatterns
namespace Go.Proofs.YtdoefdmaecaacaaGreatDoor
/-- The row, under a short name, for the claim. -/
theorem showPatterns_holds : Rows.ShowPatternsCardSaid := showPatterns.card
end Go.Proofs.YtdoefdmaecaacaaGreatDoor
