import Derived.Test.YtdhcabbngddboaaGreatDoorF1
import Derived.Test.YtdhcabbngddboaaGreatDoorHmHi
import Derived.Test.YtdhcabbngddboaaGreatDoorK36
set_option maxRecDepth 1000000
namespace Go.Proofs.YtdhcabbngddboaaGreatDoor
open Go Go.HM
theorem k36_ok : KnownOK Tryz.prog 1000 26 36 Dt.Kk36 :=
  (known_of (g := 36) (n := 200) (k := Dt.Kk36) (by omega) (tabOK (kn := fun _ => []) (fun _ _ h => by cases h)) (by kernel_rfl) (hi_of (by kernel_rfl))).1
end Go.Proofs.YtdhcabbngddboaaGreatDoor
