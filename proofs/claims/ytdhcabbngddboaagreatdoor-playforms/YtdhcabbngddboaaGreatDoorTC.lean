import Derived.Test.YtdhcabbngddboaaGreatDoorTA
namespace Go.Proofs.YtdhcabbngddboaaGreatDoor
open Go
theorem f9 : ∀ os tape, (DataW.laidRun Tryz.prog (varsWorld Tryz.prog 4000 (varsId Tryz.prog) os tape).memory 8 ((laidL.filter fun x => x.2.handleName?.isNone).map (·.1))).map (fun x => decide x.2.Nodup && laidRowsB Tryz.prog (varsWorld Tryz.prog 4000 (varsId Tryz.prog) os tape).memory x.2) = some true := fun _ _ => by kernel_rfl
theorem f10 : ∀ os tape, (laidL.filter fun x => x.2.handleName?.isSome).all (handleAtB Tryz.prog (varsWorld Tryz.prog 4000 (varsId Tryz.prog) os tape).memory) = true := fun _ _ => by kernel_rfl
end Go.Proofs.YtdhcabbngddboaaGreatDoor
