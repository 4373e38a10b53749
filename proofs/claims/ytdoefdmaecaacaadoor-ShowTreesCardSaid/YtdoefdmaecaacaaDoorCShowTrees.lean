/- ShowTrees: a tree has a line for each node; patterns that are not the same have trees that are not -/
import Derived.Test.YtdoefdmaecaacaaDoorRows
import Derived.Test.YtdoefdmaecaacaaDoorCards
import Derived.Test.YtdoefdmaecaacaaDoorTie
import Derived.Test.YtdoefdmaecaacaaDoorAmLaid
import Derived.Test.YtdoefdmaecaacaaDoorAmOpen
import Derived.Test.YtdoefdmaecaacaaDoorS7
import Derived.WalkKit
import Derived.LaidMore
import Derived.Stop.Joined
import Derived.SevenTiedAt
import Derived.ProofKit
import Derived.OpenShut
import Derived.ShutString
import Derived.ChangeOld
import Derived.Below
import Derived.SizedLaws
namespace Go.Proofs.YtdoefdmaecaacaaDoor.showTrees
open Go.ChangeShapes Go.WideShapes Go.ChangeAt Go.RowKit
open Go.ChangeMaps (open_string shut_string)
set_option linter.unusedVariables false
theorem laid : laidOutB Tryd.prog = true := by kernel_rfl
def shapes : List TypeId := [33, 58, 3, 9, 56, 54]
theorem shapes_ok : AM.okS Tryd.prog shapes = true := by kernel_rfl
theorem own : ownKnob Tryd.prog.godebug = none := by kernel_rfl
/-- The door's own heap meets the condition: three closed facts. -/
theorem door_met (os : Os) (args : Array Value) : laidMetH Tryd.prog Rows.showTreesRow.laid ((World.doorLaid Tryd.prog 400 os).forCall (fun _ _ => 0) ⟨#[], args, []⟩).memory :=
  laidMetH_of_parts3 (fuel := 8) (laidMet_of_run' 8 (by kernel_rfl) (by kernel_rfl)) (by kernel_rfl) (by kernel_rfl)
set_option maxRecDepth 100000 in
theorem of_laid {W : World} (h : laidMetH Tryd.prog Rows.showTreesRow.laid W) : AM.CxOK S.cxT AM.env0 W := by
  rw [MakeChecks.laidMetH_plain _ _ _ (by kernel_rfl)] at h
  obtain ⟨ps, ⟨g5, t5, cs5, f5, p5, q5, hg5, ht5, hv5, hd5, ⟨g2, t2, cs2, f2, p2, q2, hg2, ht2, hv2, hd2, ⟨g4, t4, cs4, f4, p4, q4, hg4, ht4, hv4, hd4, ⟨g1, t1, cs1, f1, p1, q1, hg1, ht1, hv1, hd1, ⟨g0, t0, cs0, f0, p0, q0, hg0, ht0, hv0, hd0, _, _⟩, _⟩, _⟩, _⟩, _⟩, _, _⟩ := h
  have e2 : (Tryd.prog.globals[2]?).map (·.type) = some 146 := by kernel_rfl
  have e0 : (Tryd.prog.globals[0]?).map (·.type) = some 129 := by kernel_rfl
  obtain rfl := Option.some.inj ((show Tryd.prog.globalNamed "math/bits.deBruijn64tab" = some 2 by kernel_rfl).symm.trans hg2)
  obtain rfl := Option.some.inj (e2.symm.trans ht2)
  obtain rfl := Option.some.inj ((show Tryd.prog.globalNamed "strings.asciiSpace" = some 0 by kernel_rfl).symm.trans hg0)
  obtain rfl := Option.some.inj (e0.symm.trans ht0)
  refine AM.cx_ok fun g cs hg => ?_
  simp only [S.cxT] at hg
  split at hg
  · rename_i e; subst e; obtain rfl := Option.some.inj hg; exact S.deB_glob hv2 hd2 rfl
  split at hg
  · rename_i e; subst e; obtain rfl := Option.some.inj hg; exact S.asc_glob hv0 hd0 rfl
  · cases hg
set_option maxRecDepth 100000 in
theorem lifted (os : Os) (started : os.Started) (H : Type) (enc : TypeId × Value → H) :
    ReturnsInHanded {} Tryd.checked os 4 .any (fun w args => (Rows.showTreesSpec.pre enc Tryd.prog Tryd.f4 Rows.showTreesRow.domain false w args ∧ laidMetH Tryd.prog Rows.showTreesRow.laid w) ∧ sizedMet enc Tryd.prog Tryd.f4 (OpenSpec.ofChange Rows.showTreesSpec) false w args) (Rows.showTreesSpec.post enc Tryd.prog Tryd.f4 false true false false) := by
  refine returnsInHanded_of_change_and (C := Tryd.checked) (X := fun w _ => laidMetH Tryd.prog Rows.showTreesRow.laid w) (fun _ _ _ hh h => h.of_heap hh) own started (by kernel_rfl) Tryd.func4
    (ChangeSpec.witness_shaped (enc := enc) (C := Tryd.checked) (os := os) (X := fun w _ => laidMetH Tryd.prog Rows.showTreesRow.laid w) false (World.doorLaid Tryd.prog 400 os) #[.slice none 0 0, .slice none 0 0] 8 rfl (World.shaped_of_RefB (by kernel_rfl) (by kernel_rfl)) (by kernel_rfl) (by kernel_rfl) (by kernel_rfl) (door_met os _)) ?_
  intro W base args ds gs before hval0 hW hcnd hsz0 hL _
  have hsz : (DataW.weightsEach Tryd.prog (Tryd.f4.params.toList ++ Rows.showTreesSpec.plain.varTypes Tryd.prog) (ds ++ gs)).all (· ≤ reachBytes) = true := hsz0
  have hval : ∀ (j : Nat) t v, Tryd.f4.params[j]? = some t → args[j]? = some v → Value.okWide Tryd.prog W .any base t v := hval0
  have hW' := hW
  obtain ⟨p, q, hA0, hV, rfl, hfz, hnd⟩ := hW
  have hA : DataW.TrodAll enc Tryd.prog W 0 (fun _ => true) true Tryd.f4.params.toList args.toList ds p := hA0
  rw [Tryd.params4] at hA hval hsz
  obtain ⟨v0, vs0, d0, ds0, p0, q0, hargs, rfl, rfl, h0, r0⟩ := trodAll_cons hA
  obtain ⟨v1, vs1, d1, ds1, p1, q1, rfl, rfl, rfl, h1, r1⟩ := trodAll_cons r0
  obtain ⟨rfl, rfl, rfl⟩ := trodAll_nil r1
  obtain rfl : args = #[v0, v1] := by cases args; simp_all
  obtain ⟨rfl, rfl⟩ := trodVars_none hV
  have k0 := h0
  obtain ⟨l0, t0, g0⟩ := AM.open_arg shapes_ok laid (t := 33) (by simp [shapes]) h0 (fun n hn => by
    have z := List.all_eq_true.1 hsz n (DataW.weights_mem_each (j := 0) rfl rfl n hn)
    simpa using z)
  have lt0 : ∀ x ∈ p0, x.block < W.heap.size := fun x hx => by have z := hW'.lt x (by simp [hx]); simpa using z
  have k1 := h1
  obtain ⟨l1, t1, g1⟩ := AM.open_arg shapes_ok laid (t := 33) (by simp [shapes]) h1 (fun n hn => by
    have z := List.all_eq_true.1 hsz n (DataW.weights_mem_each (j := 1) rfl rfl n hn)
    simpa using z)
  have lt1 : ∀ x ∈ p1, x.block < W.heap.size := fun x hx => by have z := hW'.lt x (by simp [hx]); simpa using z
  clear hA0 hval0 hsz0 hsz
  obtain ⟨c0, sp0, rfl, ok0, len0⟩ := S.pat_of t0
  obtain ⟨c1, sp1, rfl, ok1, len1⟩ := S.pat_of t1
  have x0 := AM.arg_one g0 (fun cs hc => by obtain ⟨a, l, c, e⟩ := okWide_slice Tryd.underlying33 (hval 0 33 v0 rfl rfl); rw [hc] at e; cases e)
  have x1 := AM.arg_one g1 (fun cs hc => by obtain ⟨a, l, c, e⟩ := okWide_slice Tryd.underlying33 (hval 1 33 v1 rfl rfl); rw [hc] at e; cases e)
  refine (AM.calls_of_R (S.r4S c0 c1 sp0 sp1 ok0 ok1 len0 len1) (of_laid hL) (.cons x0 (.cons x1 .nil))).mono fun e W' ⟨he, bel⟩ => ?_
  subst he
  exact ⟨_, rfl, _, _, _, [], _, [], hW', trodAll_mk1 (shut_bool Tryd.underlying4 _), (trodAll_cons_mk (Below.trod laid (by kernel_rfl) (of_decide_eq_true (by kernel_rfl)) k0 bel lt0) (trodAll_cons_mk (Below.trod laid (by kernel_rfl) (of_decide_eq_true (by kernel_rfl)) k1 bel lt1) trodAll_mk0)), rfl, bel.frame _, fun h => by cases h⟩
theorem over : Rows.showTreesRow.holds Tryd.pinned (OpenSpec.ofChange Rows.showTreesSpec) :=
  OpenClaim.holds_of_wide 4 Tryd.f4 rfl rfl rfl rfl rfl rfl rfl ⟨rfl, rfl, rfl, rfl, rfl⟩ rfl rfl rfl rfl rfl (by kernel_rfl) Tryd.func4 (by kernel_rfl)
    (of_decide_eq_true (by kernel_rfl)) (by unfold Func.isWrapper; first | (rw [if_pos (by decide +kernel)]; kernel_rfl) | (rw [if_neg (by decide +kernel)]; exact ⟨rfl, rfl⟩))
    (fun os started H enc _ => lifted os started H enc)
theorem proved : Rows.ShowTreesSaid := over
theorem card : Rows.ShowTreesCardSaid :=
  Claim7.holds_tied_plain_at .later [] [.data, .data, .data, .listed, .data] true (true, "9ac0addab4b1512cdcb38596a53f8bb44bd393ace0646a09241c261ab1b7f75d") false
    over (fun _ h => by cases h) (by kernel_rfl) (fun _ h => by cases h) showTrees_row_tie rfl ⟨rfl, rfl⟩ (by kernel_rfl) rfl
    (fun f fn hf hfn => by
      obtain rfl : f = 4 := Option.some.inj ((show Tryd.prog.funcNamed "harrow/harrowlaw07.ShowTrees" = some 4 by kernel_rfl).symm.trans hf) |>.symm
      obtain rfl : fn = Tryd.f4 := (Option.some.inj (Tryd.func4.symm.trans hfn)).symm
      exact ⟨by kernel_rfl, fun j t ht => by
        rw [Tryd.params4] at ht
        have hm : t ∈ [33, 33] := by simpa using Array.mem_of_getElem? ht
        have hall : ([33, 33].all fun u => !Tryd.prog.wantsStandIn u) = true := by kernel_rfl
        exact (show Tryd.prog.wantsStandIn t = false by simpa using List.all_eq_true.1 hall t hm)⟩)
    (by kernel_rfl)
end Go.Proofs.YtdoefdmaecaacaaDoor.showTrees
namespace Go.Proofs.YtdoefdmaecaacaaDoor
/-- The row, under a short name, for the claim. -/
theorem showTrees_holds : Rows.ShowTreesCardSaid := showTrees.card
end Go.Proofs.YtdoefdmaecaacaaDoor
