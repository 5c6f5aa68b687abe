/- New of the document: the code. -/
import Derived.RangeFuncNested
import Derived.Test.YtolcabjkbefjgaaGreatDoorY23
set_option linter.unusedSimpArgs false
set_option linter.unusedVariables false
set_option maxRecDepth 20000
set_option maxHeartbeats 4000000
namespace Go.Proofs.YtolcabjkbefjgaaGreatDoor
section
open Go.RowKit
theorem zde {W : World} {q : Nat} {cs : Array Value} {t : TypeId} {fr : Nat × Nat} (h : W.heap[q]? = some (.cells cs t fr)) (i : Nat) (v : Value) : (W.setCell ⟨q,i,none⟩ v).heap[q]? = some (.cells (cs.setIfInBounds i v) t fr):=by
 simp [World.setCell,Array.getElem?_modify,h]
section
variable {w : World}
end
end
end Go.Proofs.YtolcabjkbefjgaaGreatDoor
