/- Contracts, part Z7. -/
import Derived.Test.YthcpaohmajjopaaGreatDoorZ6
import Derived.Stop.LaidErr
import Derived.Test.YthcpaohmajjopaaGreatDoorAmLaid
set_option linter.unusedVariables false
set_option linter.unusedSimpArgs false
namespace Go.Proofs.YthcpaohmajjopaaGreatDoor.I
open Go Go.Proofs Go.Proofs.YthcpaohmajjopaaGreatDoor.AM
end Go.Proofs.YthcpaohmajjopaaGreatDoor.I
set_option linter.unusedVariables false
set_option linter.unusedSimpArgs false
namespace Go.Proofs.YthcpaohmajjopaaGreatDoor.I
open Go Go.Proofs Go.Proofs.YthcpaohmajjopaaGreatDoor.AM
end Go.Proofs.YthcpaohmajjopaaGreatDoor.I
set_option linter.unusedVariables false
set_option linter.unusedSimpArgs false
namespace Go.Proofs.YthcpaohmajjopaaGreatDoor.I
open Go Go.Proofs Go.Proofs.YthcpaohmajjopaaGreatDoor.AM
variable {X : Cx}
theorem r4 (hX : HY X) (b : ByteArray) (hb : b.size ≤ 140737488351232) : R X Tryz.prog 4 [.lf (.str b)] [] (.lf (.bool true)) [] := by
 have h8 := r8 (X := X) hX.h1 b hb (cntR_bd b) _ rfl
 have h11 := r11 hX b _ rfl
 have h7 := r7 (X := X) hX.h1
 have hra := read_again b
 have hua := unl_again b
 have h5 := fun hok => r5 hX.h1 (readA b).1 hok [] _ rfl
 have h10 := fun hok => r10 hX.toHX (unlA b).1 hok [] _ rfl
 generalize readA b = r at *
 generalize unlA b = u at *
 obtain ⟨rc, ra, re⟩ := r
 obtain ⟨uc, ua, ue⟩ := u
 simp only at *
 refine R_i [] [] c4_ok rfl (by simp) ?_
 simp -implicitDefEqProofs (maxSteps := 2000000) only [c4,↓reduceIte,S0,St.init,enum,reduceCtorEq,PV.leaves]
 refine wcall_down h8 rfl ?_
 simp -implicitDefEqProofs (maxSteps := 2000000) only [c4,↓reduceIte,S0,Nat.reduceEqDiff,Nat.reduceAdd,reduceCtorEq,St.clr,outV,ownsV,owns1,ownL,PV.leaves,PV.cells,cellL,fillL]
 with_reducible refine ite_pr (fun h1 => ?_) (fun h1 => ?_)
 ·obtain ⟨e1, ok1⟩ := hra h1
  have h5 := h5 ok1
  rw [e1] at h5
  refine wcall_s h5 rfl rfl ?_
  simp -implicitDefEqProofs (maxSteps := 2000000) only [c4,↓reduceIte,S0,Nat.reduceEqDiff,reduceCtorEq,cond_false,St.clr,outV,ownsV,owns1,ownL,PV.leaves,ne_eq,ite_not,Decidable.not_not]
  refine wcall_down h11 rfl ?_
  simp -implicitDefEqProofs (maxSteps := 2000000) only [c4,↓reduceIte,S0,Nat.reduceEqDiff,Nat.reduceAdd,reduceCtorEq,St.clr,outV,ownsV,owns1,ownL,PV.leaves,PV.cells,cellL,fillL]
  with_reducible refine ite_pr (fun h2 => ?_) (fun h2 => ?_)
  ·obtain ⟨e2, ok2⟩ := hua h2
   have h10 := h10 ok2
   rw [e2] at h10
   refine wcall_s h10 rfl rfl ?_
   simp -implicitDefEqProofs (maxSteps := 2000000) only [c4,↓reduceIte,S0,Nat.reduceEqDiff,reduceCtorEq,cond_false,St.clr,outV,ownsV,owns1,ownL,PV.leaves,ne_eq,ite_not,Decidable.not_not]
   refine wcall_s h7 rfl rfl ?_
   simp -implicitDefEqProofs (maxSteps := 2000000) only [c4,↓reduceIte,S0,St.clr,outV,ownsV,owns1,ownL]
   done
  ·refine wcall_s h7 rfl rfl ?_
   simp -implicitDefEqProofs (maxSteps := 2000000) only [c4,↓reduceIte,S0,St.clr,outV,ownsV,owns1,ownL]
   done
 ·refine wcall_down h11 rfl ?_
  simp -implicitDefEqProofs (maxSteps := 2000000) only [c4,↓reduceIte,S0,Nat.reduceEqDiff,Nat.reduceAdd,reduceCtorEq,St.clr,outV,ownsV,owns1,ownL,PV.leaves,PV.cells,cellL,fillL]
  with_reducible refine ite_pr (fun h2 => ?_) (fun h2 => ?_)
  ·obtain ⟨e2, ok2⟩ := hua h2
   have h10 := h10 ok2
   rw [e2] at h10
   refine wcall_s h10 rfl rfl ?_
   simp -implicitDefEqProofs (maxSteps := 2000000) only [c4,↓reduceIte,S0,Nat.reduceEqDiff,reduceCtorEq,cond_false,St.clr,outV,ownsV,owns1,ownL,PV.leaves,ne_eq,ite_not,Decidable.not_not]
   refine wcall_s h7 rfl rfl ?_
   simp -implicitDefEqProofs (maxSteps := 2000000) only [c4,↓reduceIte,S0,St.clr,outV,ownsV,owns1,ownL]
   done
  ·refine wcall_s h7 rfl rfl ?_
   simp -implicitDefEqProofs (maxSteps := 2000000) only [c4,↓reduceIte,S0,St.clr,outV,ownsV,owns1,ownL]
   done
end Go.Proofs.YthcpaohmajjopaaGreatDoor.I
set_option linter.unusedVariables false
set_option linter.unusedSimpArgs false
namespace Go.Proofs.YthcpaohmajjopaaGreatDoor.I
open Go Go.Proofs Go.Proofs.YthcpaohmajjopaaGreatDoor.AM
variable {X : Cx}
end Go.Proofs.YthcpaohmajjopaaGreatDoor.I
set_option linter.unusedVariables false
namespace Go.Proofs.YthcpaohmajjopaaGreatDoor.I
open Go Go.Proofs Go.Proofs.YthcpaohmajjopaaGreatDoor.AM
def cxY (o5 o6 : Nat) : Cx := ⟨fun g => if g = 0 then some usesL else if g = 1 then some namesL else if g = 3 then some powL else if g = 4 then some deBL else if g = 5 then some [.iface 164 (.rp [] o5)] else if g = 6 then some [.iface 164 (.rp [] o6)] else none⟩
theorem cxY_h (o5 o6 : Nat) : HY (cxY o5 o6) := ⟨⟨rfl, rfl, rfl, rfl⟩, ⟨164, _, rfl⟩, ⟨164, _, rfl⟩⟩
theorem namesL_is : namesL = nameT.map fun n => L.str ⟨n.toArray⟩ := by
 unfold namesL
 apply List.ext_getElem?
 intro i
 by_cases h : i < 21
 ·have h2 : i < nameT.length := by have : nameT.length = 21 := rfl; omega
  simp [h, nameF, List.getElem?_eq_getElem h2]
 ·have h2 : nameT.length ≤ i := by have : nameT.length = 21 := rfl; omega
  simp [h, List.getElem?_eq_none h2]
theorem names_glob {w : World} {fuel : Nat} {cs : Array Value} {ps : List MemPlace} {d : DataW Unit} (hv : w.var? Tryz.prog "harrow/instr.names" = some cs)
  (h : DataW.trod (fun _ => ()) Tryz.prog w 0 (fun _ => true) false fuel 73 cs.toList = some (d, ps)) (hd : d = .agg (nameT.map fun n => .lit (.string n))) : GlobOK w 1 namesL := by
 subst hd
 rw [namesL_is]
 exact glob_strs (by kernel_rfl) hv (table_strs Tryz.underlying73 Tryz.underlying9 (by kernel_rfl) (by kernel_rfl) h) (by decide)
theorem pow_glob {w : World} {fuel : Nat} {cs : Array Value} {ps : List MemPlace} {d : DataW Unit} (hv : w.var? Tryz.prog "internal/strconv.uint64pow10" = some cs)
  (h : DataW.trod (fun _ => ()) Tryz.prog w 0 (fun _ => true) false fuel 149 cs.toList = some (d, ps)) (hd : d = .agg (Lib.pow10Tab.map fun n => .lit (.int .u64 n))) : GlobOK w 3 powL := by
 subst hd
 exact glob_ints (by kernel_rfl) hv (table_ints Tryz.underlying149 Tryz.underlying38 (by kernel_rfl) (by kernel_rfl) h) (by decide)
theorem deB_glob {w : World} {fuel : Nat} {cs : Array Value} {ps : List MemPlace} {d : DataW Unit} (hv : w.var? Tryz.prog "math/bits.deBruijn64tab" = some cs)
  (h : DataW.trod (fun _ => ()) Tryz.prog w 0 (fun _ => true) false fuel 152 cs.toList = some (d, ps)) (hd : d = .agg (Lib.deBruijn64tab.map fun n => .lit (.int .u8 (n : Nat)))) : GlobOK w 4 deBL := by
 have e : deBL = (Lib.deBruijn64tab.map fun n => ((n : Nat) : Int)).map (L.int .u8) := by rw [List.map_map]; rfl
 have e2 : d = .agg ((Lib.deBruijn64tab.map fun n => ((n : Nat) : Int)).map fun n => .lit (.int .u8 n)) := by rw [hd, List.map_map]; rfl
 subst e2
 rw [e]
 exact glob_ints (by kernel_rfl) hv (table_ints Tryz.underlying152 Tryz.underlying5 (by kernel_rfl) (by kernel_rfl) h) (by decide)
theorem star_err : "*" ++ "errors.errorString" = "*errors.errorString" := by decide
theorem err_row (u : TypeId) (h : Tryz.prog.typeName? 3 u = some "*errors.errorString") : u = 164 :=
 typeName_ptr_named (nm := "errors.errorString") (by rw [star_err]; kernel_rfl) (by kernel_rfl) (by decide) u (by rw [star_err]; exact h)
theorem err_glob {w : World} {n : String} {g : Nat} {a : Addr} {s : ByteArray} (hg : Tryz.prog.globalNamed n = some g) (hv : w.var? Tryz.prog n = some #[.iface 164 (.pointer (some a))]) (hc : w.cell? a = some (.string s)) : GlobOK w g [.iface 164 (.rp [] a.off)] := by
 obtain ⟨b, off, spot⟩ := a
 have hsp : spot = none := by
  cases spot with
  | none => rfl
  | some k =>
   unfold World.cell? at hc
   split at hc <;> simp at hc
 subst hsp
 have hlt : b < w.heap.size := by
  rcases Nat.lt_or_ge b w.heap.size with h | h
  ·exact h
  ·unfold World.cell? at hc
   simp [Array.getElem?_eq_none h] at hc
 refine ⟨by simp, by rw [World.var?_cell hg hv]; rfl, fun j c hj => ?_⟩
 cases j with
 | zero =>
  obtain rfl := Option.some.inj hj
  exact ⟨_, World.var?_cell hg hv 0, D.iface _ _ _ (D.rp [] off b [] trivial hlt rfl (fun i u h => by simp at h) (fun i c u h => by simp at h))⟩
 | succ j => simp at hj
theorem err_of {n : String} {text : List UInt8} {r : List (String × DataW Unit)} {W : World} {g : Nat} (h : laidMet Tryz.prog ((n, .iface "*errors.errorString" (.ptr (.agg [.lit (.string text)]))) :: r) W)
  (hg : Tryz.prog.globalNamed n = some g) (ht : (Tryz.prog.globals[g]?).map (·.type) = some 58) : ∃ o, GlobOK W g [.iface 164 (.rp [] o)] := by
 obtain ⟨a, s, hv, hc, _, _⟩ := laid_sentinel h hg ht Tryz.underlying58 err_row Tryz.underlying164 Tryz.underlying166 rfl rfl Tryz.underlying9 (by kernel_rfl) (by kernel_rfl)
 exact ⟨a.off, err_glob hg hv hc⟩
theorem cxY_ok {W : World} {o5 o6 : Nat} (h0 : GlobOK W 0 usesL) (h1 : GlobOK W 1 namesL) (h3 : GlobOK W 3 powL) (h4 : GlobOK W 4 deBL) (h5 : GlobOK W 5 [.iface 164 (.rp [] o5)]) (h6 : GlobOK W 6 [.iface 164 (.rp [] o6)]) : CxOK (cxY o5 o6) env0 W := by
 refine cx_ok fun g cs hg => ?_
 simp only [cxY] at hg
 split at hg
 ·rename_i e; subst e; obtain rfl := Option.some.inj hg; exact h0
 split at hg
 ·rename_i e; subst e; obtain rfl := Option.some.inj hg; exact h1
 split at hg
 ·rename_i e; subst e; obtain rfl := Option.some.inj hg; exact h3
 split at hg
 ·rename_i e; subst e; obtain rfl := Option.some.inj hg; exact h4
 split at hg
 ·rename_i e; subst e; obtain rfl := Option.some.inj hg; exact h5
 split at hg
 ·rename_i e; subst e; obtain rfl := Option.some.inj hg; exact h6
 ·cases hg
end Go.Proofs.YthcpaohmajjopaaGreatDoor.I
