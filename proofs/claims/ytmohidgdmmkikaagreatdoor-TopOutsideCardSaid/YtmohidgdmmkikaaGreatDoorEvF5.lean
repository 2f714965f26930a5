/- The quick evaluator: a closed sentence that it finds true is true. -/
import Derived.Test.YtmohidgdmmkikaaGreatDoorEvF4
import Derived.Test.YtmohidgdmmkikaaGreatDoorEv27
namespace Go.Proofs.YtmohidgdmmkikaaGreatDoor
open Go.RowKit
namespace Ev
theorem closed_quick {n : Nat} {f : FuncId} (h : saysTrue (callF Tryz.prog orc n f [] ⟨.nil, 0⟩) = true) (w : World) : Calls Tryz.prog f #[] w fun e w' => e = .returned (.bool true) ∧ Ext w w' := by
  rw [callF_eq] at h
  exact closed_true h w
end Ev
end Go.Proofs.YtmohidgdmmkikaaGreatDoor
