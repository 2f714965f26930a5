/- The closed facts of TopOutside' card, one by one. -/
import Derived.Test.YtmohidgdmmkikaaGreatDoorRows
import Derived.SevenTiedAt
import Derived.KernelRfl
namespace Go.Proofs.YtmohidgdmmkikaaGreatDoor.topOutside
theorem card_wf : Rows.topOutsideRow.wfByText (OpenSpec.ofChange Rows.topOutsideSpec) = true := by kernel_rfl
theorem card_main : Tryz.prog.mainIs = some (true, "329d0610a1b0ebfcacb3f1b2feccb3f3d731e332119b14de8978fce19046121f".toList) := by kernel_rfl
theorem card_named : Tryz.prog.funcNamed "strongroom/strongroomtop.TopOutside" = some 3 := by kernel_rfl
theorem card_looks : false = Tryz.prog.looks [] := by kernel_rfl
theorem card_goes : false = Rows.topOutsideRow.goesBy Tryz.prog := by kernel_rfl
end Go.Proofs.YtmohidgdmmkikaaGreatDoor.topOutside
