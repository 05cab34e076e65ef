import Derived.Test.YtdhcabbngddboaaGreatDoorF7
import Derived.Test.YtdhcabbngddboaaGreatDoorCA
import Derived.Test.YtdhcabbngddboaaGreatDoorCB
import Derived.Test.YtdhcabbngddboaaGreatDoorCC
set_option maxRecDepth 1000000
set_option linter.unusedVariables false
namespace Go.Proofs.YtdhcabbngddboaaGreatDoor
open Go Go.HM Go.ChangeShapes Go.WideShapes Go.ChangeAt Go.RowKit

theorem closed : joinedFacts Tryz.pinned.checked.prog 3 Tryz.f3 Rows.playFormsSpec Rows.playFormsRow = true :=
  closedOf Tryz.pinned.checked.prog 3 Tryz.f3 Rows.playFormsSpec Rows.playFormsRow cl0 cl1 cl2 cl3 cl4 cl5 cl6 cl7 cl8 cl9 cl10 cl11 cl12 cl13 cl14 cl15 cl16 cl17 cl18 cl19 cl20 cl21 cl22 cl23 cl24 cl25 cl26 cl27 cl28 cl29 cl30 cl31
theorem named3 : Tryz.pinned.checked.prog.funcNamed Rows.playFormsRow.func = some 3 := by kernel_rfl
theorem inst3 : Tryz.f3.isInstance Tryz.pinned.checked.prog Rows.playFormsRow.origin Rows.playFormsRow.targs := of_decide_eq_true (by kernel_rfl)
theorem wrap3 : Tryz.f3.isWrapper Tryz.pinned.checked.prog Rows.playFormsRow.wrapper Rows.playFormsRow.mainSum := by unfold Func.isWrapper; first | (rw [if_pos (by decide +kernel)]; kernel_rfl) | (rw [if_neg (by decide +kernel)]; exact ⟨rfl, rfl⟩)
theorem row_holds : Rows.PlayFormsSaid :=
  OpenClaim.holds_of_wide 3 Tryz.f3 rfl rfl rfl rfl rfl rfl rfl ⟨rfl, rfl, rfl, rfl, rfl⟩ rfl rfl rfl rfl rfl named3 Tryz.func3 closed
    inst3 wrap3
    (fun os started H enc _ => lifted os started H enc)
#print axioms row_holds
end Go.Proofs.YtdhcabbngddboaaGreatDoor
