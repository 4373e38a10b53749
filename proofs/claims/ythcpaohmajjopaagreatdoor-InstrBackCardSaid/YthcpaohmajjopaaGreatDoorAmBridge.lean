/- The abstract machine, part Bridge. -/
import Derived.Test.YthcpaohmajjopaaGreatDoorAmLeaf2
set_option linter.unusedVariables false
set_option linter.unusedSimpArgs false
namespace Go.Proofs.YthcpaohmajjopaaGreatDoor.AM
open Go Go.RowKit
variable {X:Cx}
theorem calls_of_R {P:Program} {f:Nat} {args:List PV} {vs:List Value} {w:World} (h:R X P f args [] (.lf (.bool true)) []) (hX:CxOK X ⟨fun _=>True,fun _=>none,fun _=>none⟩ w) (hv:All2 (V ⟨fun _=>True,fun _=>none,fun _=>none⟩ w) args vs) :
  Calls P f vs.toArray w fun e w'=>e = .returned (.bool true) ∧ Below w.heap.size w w':=by
 refine (h ⟨fun _=>True,fun _=>none,fun _=>none⟩ w vs hX (inj_none _ _) (fun _ _=>rfl) hv (fun _ _ h=>by simp at h)).mono ?_
 rintro e w' ⟨v,E',rfl,W,hV,_⟩
 rw [V_bool hV]
 exact ⟨rfl,W.un.os,W.un.tape,W.un.output,W.un.size,fun b hb=>W.un.block b hb (by rintro (⟨c,hc⟩ | ⟨p,hp⟩);(simp at hc);(simp at hp))⟩
end Go.Proofs.YthcpaohmajjopaaGreatDoor.AM
