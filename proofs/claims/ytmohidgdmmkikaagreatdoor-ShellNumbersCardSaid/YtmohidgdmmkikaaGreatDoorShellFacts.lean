/- The closed facts of ShellNumbers' row, one by one. -/
import Derived.Test.YtmohidgdmmkikaaGreatDoorRows
import Derived.JoinedOf
namespace Go.Proofs.YtmohidgdmmkikaaGreatDoor.shellNumbers
theorem fact_wf : Rows.shellNumbersRow.wf (OpenSpec.ofChange Rows.shellNumbersSpec) = true := by kernel_rfl
theorem fact_laid : laidOutB Tryz.prog = true := by kernel_rfl
theorem fact_maps : mapsRowed Tryz.prog = true := by kernel_rfl
theorem fact_inPlace : (Rows.shellNumbersRow.inPlace == Tryz.prog.inPlace 4) = true := by kernel_rfl
theorem fact_unfollowed : (Rows.shellNumbersRow.unfollowed == Tryz.prog.unfollowed 4) = true := by kernel_rfl
theorem fact_recurses : (Rows.shellNumbersRow.recurses == Tryz.prog.recurses 4) = true := by kernel_rfl
theorem fact_named : (Rows.shellNumbersRow.named == Tryz.prog.varsNamed 4) = true := by kernel_rfl
theorem fact_keys : (Rows.shellNumbersRow.plainKeys == Tryz.prog.plainKeys) = true := by kernel_rfl
theorem fact_heard : Tryz.prog.stopsHeard = true := by kernel_rfl
theorem fact_enter : Tryz.prog.mayEnter = true := by kernel_rfl
theorem fact_lifts : (Rows.shellNumbersRow.lifted == Tryz.prog.liftsFinal) = true := by kernel_rfl
theorem fact_make : (Tryz.prog.make == some Rows.shellNumbersRow.make) = true := by kernel_rfl
end Go.Proofs.YtmohidgdmmkikaaGreatDoor.shellNumbers
