import Derived.Test.YtdhcabbngddboaaGreatDoorF6
set_option maxRecDepth 1000000
set_option linter.unusedVariables false
namespace Go.Proofs.YtdhcabbngddboaaGreatDoor
open Go Go.HM Go.ChangeShapes Go.WideShapes Go.ChangeAt Go.RowKit
theorem cl11 : ((Rows.playFormsRow.recurses == Tryz.pinned.checked.prog.recurses 3)) = true := by kernel_rfl
theorem cl12 : ((Rows.playFormsRow.named == Tryz.pinned.checked.prog.varsNamed 3)) = true := by kernel_rfl
end Go.Proofs.YtdhcabbngddboaaGreatDoor
