import Derived.Test.YtdhcabbngddboaaGreatDoorF6
set_option maxRecDepth 1000000
set_option linter.unusedVariables false
namespace Go.Proofs.YtdhcabbngddboaaGreatDoor
open Go Go.HM Go.ChangeShapes Go.WideShapes Go.ChangeAt Go.RowKit
theorem cl1 : (laidOutB Tryz.pinned.checked.prog) = true := by kernel_rfl
theorem cl9 : ((Rows.playFormsRow.inPlace == Tryz.pinned.checked.prog.inPlace 3)) = true := by kernel_rfl
theorem cl10 : ((Rows.playFormsRow.unfollowed == Tryz.pinned.checked.prog.unfollowed 3)) = true := by kernel_rfl
end Go.Proofs.YtdhcabbngddboaaGreatDoor
