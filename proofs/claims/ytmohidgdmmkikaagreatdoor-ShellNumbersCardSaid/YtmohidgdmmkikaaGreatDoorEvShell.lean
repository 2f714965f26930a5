/- The evaluator's run of ShellNumbers. -/
import Derived.Test.YtmohidgdmmkikaaGreatDoorEv27
namespace Go.Proofs.YtmohidgdmmkikaaGreatDoor
namespace Ev
theorem shell_run : saysTrue (callN Tryz.prog orc 60 4 [] ⟨.nil, 0⟩) = true := by kernel_rfl
end Ev
open Go.RowKit
theorem shell_calls (w : World) : Calls Tryz.prog 4 #[] w fun e w' => e = .returned (.bool true) ∧ Ext w w' := Ev.closed_true Ev.shell_run w
end Go.Proofs.YtmohidgdmmkikaaGreatDoor
