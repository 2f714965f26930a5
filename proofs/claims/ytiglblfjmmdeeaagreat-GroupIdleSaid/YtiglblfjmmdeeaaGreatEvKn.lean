/- The evaluator's run of the law's known. -/
import Derived.Test.YtiglblfjmmdeeaaGreatMEvD
namespace Go.Proofs.YtiglblfjmmdeeaaGreat
namespace Ev
theorem known_run : saysTrue (callF Tryz.prog orc 60 11 [] ⟨.nil, 0⟩) = true := by kernel_rfl
end Ev
open Go.RowKit
theorem known_calls (w : World) : Calls Tryz.prog 11 #[] w fun e w' => e = .returned (.bool true) ∧ Ext w w' := Ev.closed_quick Ev.known_run w
end Go.Proofs.YtiglblfjmmdeeaaGreat
