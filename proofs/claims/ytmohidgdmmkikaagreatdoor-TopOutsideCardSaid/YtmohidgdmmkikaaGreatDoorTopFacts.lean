/- The closed facts of TopOutside' row, one by one. -/
import Derived.Test.YtmohidgdmmkikaaGreatDoorRows
import Derived.JoinedOf
namespace Go.Proofs.YtmohidgdmmkikaaGreatDoor.topOutside
theorem fact_wf : Rows.topOutsideRow.wf (OpenSpec.ofChange Rows.topOutsideSpec) = true := by kernel_rfl
theorem fact_laid : laidOutB Tryz.prog = true := by kernel_rfl
theorem fact_maps : mapsRowed Tryz.prog = true := by kernel_rfl
theorem fact_inPlace : (Rows.topOutsideRow.inPlace == Tryz.prog.inPlace 3) = true := by kernel_rfl
theorem fact_unfollowed : (Rows.topOutsideRow.unfollowed == Tryz.prog.unfollowed 3) = true := by kernel_rfl
theorem fact_recurses : (Rows.topOutsideRow.recurses == Tryz.prog.recurses 3) = true := by kernel_rfl
theorem fact_named : (Rows.topOutsideRow.named == Tryz.prog.varsNamed 3) = true := by kernel_rfl
theorem fact_keys : (Rows.topOutsideRow.plainKeys == Tryz.prog.plainKeys) = true := by kernel_rfl
theorem fact_heard : Tryz.prog.stopsHeard = true := by kernel_rfl
theorem fact_enter : Tryz.prog.mayEnter = true := by kernel_rfl
theorem fact_lifts : (Rows.topOutsideRow.lifted == Tryz.prog.liftsFinal) = true := by kernel_rfl
theorem fact_make : (Tryz.prog.make == some Rows.topOutsideRow.make) = true := by kernel_rfl
end Go.Proofs.YtmohidgdmmkikaaGreatDoor.topOutside
