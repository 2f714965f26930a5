/- The evaluator's run of the statements' awake. -/
import Derived.Test.YtmohidgdmmkikaaGreatDoorEvF5
namespace Go.Proofs.YtmohidgdmmkikaaGreatDoor
namespace Ev
theorem awake_run : saysTrue (callF Tryz.prog orc 60 15 [] ⟨.nil, 0⟩) = true := by kernel_rfl
end Ev
open Go.RowKit
theorem awake_calls (w : World) : Calls Tryz.prog 15 #[] w fun e w' => e = .returned (.bool true) ∧ Ext w w' := Ev.closed_quick Ev.awake_run w
end Go.Proofs.YtmohidgdmmkikaaGreatDoor
