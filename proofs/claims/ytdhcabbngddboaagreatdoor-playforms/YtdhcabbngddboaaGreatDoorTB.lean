import Derived.Test.YtdhcabbngddboaaGreatDoorTA
namespace Go.Proofs.YtdhcabbngddboaaGreatDoor
open Go
theorem f7 : ∀ os tape, varsDone Tryz.prog 4000 (varsId Tryz.prog) os tape = true := fun _ _ => by kernel_rfl
theorem f8 : ∀ os tape, (DataW.laidRun Tryz.prog (varsWorld Tryz.prog 4000 (varsId Tryz.prog) os tape).memory 8 ((laidL.filter fun x => x.2.handleName?.isNone).map (·.1))).map (·.1) = some (laidL.filter fun x => x.2.handleName?.isNone) := fun _ _ => by kernel_rfl
end Go.Proofs.YtdhcabbngddboaaGreatDoor
