/- The abstract machine, part Open. -/
import Derived.Test.YthcpaohmajjopaaGreatDoorAmBridge
import Derived.ChangeArms
import Derived.OpenShut
import Derived.ChangeBears
import Derived.WideShapes
import Derived.SizedLaws
set_option linter.unusedVariables false
set_option linter.unusedSimpArgs false
namespace Go.Proofs.YthcpaohmajjopaaGreatDoor.AM
open Go
theorem All2.flatten {α β : Type} {R : α → β → Prop} : ∀ {as : List (List α)} {bs : List (List β)}, All2 (All2 R) as bs → All2 R as.flatten bs.flatten
 | _, _, .nil => .nil
 | _, _, .cons h1 h2 => by simpa using All2.append h1 (All2.flatten h2)
section
variable {H : Type} {enc : TypeId × Value → H} {P : Program} {w : World} {held : Bool}
abbrev env0 : Env := ⟨fun _ => True, fun _ => none, fun _ => none⟩
end
end Go.Proofs.YthcpaohmajjopaaGreatDoor.AM
