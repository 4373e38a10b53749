/- The abstract machine, part Laid. -/
import Derived.Test.YthcpaohmajjopaaGreatDoorAmOpen
import Derived.FnData
set_option linter.unusedVariables false
set_option linter.unusedSimpArgs false
namespace Go.Proofs.YthcpaohmajjopaaGreatDoor.AM
open Go
section
variable {H:Type} {enc:TypeId × Value → H} {P:Program} {w:World} {held:Bool} {spare:Nat → Bool} {base:Nat}
theorem table_ints {t e:TypeId} {k:IntKind} {len fuel:Nat} {cs:List Value} {ps:List MemPlace} {ns:List Int} (hu:P.underlying t = some (.array len e)) (he:P.underlying e = some (.int k)) (hce:P.cellsOf e = 1) (hct:P.cellsOf t = len)
  (h:DataW.trod enc P w base spare held fuel t cs = some (.agg (ns.map fun n=>.lit (.int k n)),ps)):cs = ns.map (Value.int k):=by
 obtain ⟨xs,m,_,hx,hl,hn,hel⟩:=DataW.trod_array hu h
 simp only [Prod.mk.injEq,DataW.agg.injEq] at hx
 have hx:=hx.1
 rw [hct] at hl
 have hlen:ns.length = xs.length:=by simpa using congrArg List.length hx
 refine List.ext_getElem? fun i=>?_
 by_cases hi:i < len
 ·have q:=hel i hi
  rw [hce,Nat.mul_one,List.getElem?_eq_getElem (by omega)] at q
  obtain ⟨n,e1,e2,_⟩:=DataW.trod_int he q
  have h1:cs[i]? = some (.int k n):=by
   have:=congrArg (fun l=>l[0]?) e1
   simpa using this
  have h2:=congrArg (fun l=>l[i]?) hx
  simp only [List.getElem?_map,List.getElem?_eq_getElem (show i < ns.length by omega),List.getElem?_eq_getElem (show i < xs.length by omega),e2,Option.map_some,Option.some.injEq,DataW.lit.injEq,Lit.int.injEq,true_and] at h2
  rw [h1,List.getElem?_map,List.getElem?_eq_getElem (show i < ns.length by omega),h2]
  rfl
 ·rw [List.getElem?_eq_none (by omega),List.getElem?_eq_none (by simp;omega)]
theorem table_strs {t e:TypeId} {len fuel:Nat} {cs:List Value} {ps:List MemPlace} {ns:List (List UInt8)} (hu:P.underlying t = some (.array len e)) (he:P.underlying e = some .string) (hce:P.cellsOf e = 1) (hct:P.cellsOf t = len)
  (h:DataW.trod enc P w base spare held fuel t cs = some (.agg (ns.map fun n=>.lit (.string n)),ps)):cs = ns.map fun n=>Value.string ⟨n.toArray⟩:=by
 obtain ⟨xs,m,_,hx,hl,hn,hel⟩:=DataW.trod_array hu h
 simp only [Prod.mk.injEq,DataW.agg.injEq] at hx
 have hx:=hx.1
 rw [hct] at hl
 have hlen:ns.length = xs.length:=by simpa using congrArg List.length hx
 refine List.ext_getElem? fun i=>?_
 by_cases hi:i < len
 ·have q:=hel i hi
  rw [hce,Nat.mul_one,List.getElem?_eq_getElem (by omega)] at q
  obtain ⟨n,e1,e2,_⟩:=DataW.trod_string he q
  have h1:cs[i]? = some (.string n):=by
   have:=congrArg (fun l=>l[0]?) e1
   simpa using this
  have h2:=congrArg (fun l=>l[i]?) hx
  simp only [List.getElem?_map,List.getElem?_eq_getElem (show i < ns.length by omega),List.getElem?_eq_getElem (show i < xs.length by omega),e2,Option.map_some,Option.some.injEq,DataW.lit.injEq,Lit.string.injEq] at h2
  rw [h1,List.getElem?_map,List.getElem?_eq_getElem (show i < ns.length by omega),h2]
  rfl
 ·rw [List.getElem?_eq_none (by omega),List.getElem?_eq_none (by simp;omega)]
def GlobOK (w:World) (g:Nat) (cs:List L):Prop:=0 < cs.length ∧ w.cell? ⟨g,cs.length,none⟩ = none ∧ ∀ (j:Nat) (c:L),cs[j]? = some c → ∃ u,w.cell? ⟨g,j,none⟩ = some u ∧ D (fun _=>True) w c u
theorem glob_ints {n:String} {g:Nat} {cs:Array Value} {k:IntKind} {ns:List Int} (hg:P.globalNamed n = some g) (hv:w.var? P n = some cs) (h:cs.toList = ns.map (Value.int k)) (h0:0 < ns.length):GlobOK w g (ns.map (L.int k)):=by
 refine ⟨by simpa using h0,by rw [World.var?_cell hg hv,← Array.getElem?_toList,h,List.length_map,List.getElem?_eq_none (by simp)],fun j c hc=>?_⟩
 rw [List.getElem?_map] at hc
 obtain ⟨m,hm,rfl⟩:=Option.map_eq_some_iff.1 hc
 refine ⟨.int k m,?_,.int k m⟩
 rw [World.var?_cell hg hv j,← Array.getElem?_toList,h,List.getElem?_map,hm];rfl
theorem glob_strs {n:String} {g:Nat} {cs:Array Value} {ns:List (List UInt8)} (hg:P.globalNamed n = some g) (hv:w.var? P n = some cs) (h:cs.toList = ns.map fun n=>Value.string ⟨n.toArray⟩) (h0:0 < ns.length):GlobOK w g (ns.map fun n=>L.str ⟨n.toArray⟩):=by
 refine ⟨by simpa using h0,by rw [World.var?_cell hg hv,← Array.getElem?_toList,h,List.length_map,List.getElem?_eq_none (by simp)],fun j c hc=>?_⟩
 rw [List.getElem?_map] at hc
 obtain ⟨m,hm,rfl⟩:=Option.map_eq_some_iff.1 hc
 refine ⟨.string ⟨m.toArray⟩,?_,.str _⟩
 rw [World.var?_cell hg hv j,← Array.getElem?_toList,h,List.getElem?_map,hm];rfl
theorem cx_ok {X:Cx} (h:∀ (g:Nat) (cs:List L),X.G g = some cs → GlobOK w g cs):CxOK X env0 w:=by
 intro g cs hg
 obtain ⟨h0,h2,h1⟩:=h g cs hg
 refine ⟨trivial,?_,h2,h1⟩
 obtain ⟨u,hu,_⟩:=h1 0 cs[0] (by rw [List.getElem?_eq_getElem h0])
 unfold World.cell? at hu
 simp only at hu
 rcases Nat.lt_or_ge g w.heap.size with h | h
 ·exact h
 ·rw [Array.getElem?_eq_none h] at hu
  simp at hu
end
end Go.Proofs.YthcpaohmajjopaaGreatDoor.AM
