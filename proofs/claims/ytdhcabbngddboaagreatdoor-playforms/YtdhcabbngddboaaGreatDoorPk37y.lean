import Derived.Test.YtdhcabbngddboaaGreatDoorF1
import Derived.Test.YtdhcabbngddboaaGreatDoorHmHi
import Derived.Test.YtdhcabbngddboaaGreatDoorK37y
set_option maxRecDepth 1000000
namespace Go.Proofs.YtdhcabbngddboaaGreatDoor
open Go Go.HM
theorem k37y_ok : KnownOK Tryz.prog 1000 26 37 Dt.Kk37y :=
  (known_of (g := 37) (n := 200) (k := Dt.Kk37y) (by omega) (tabOK (kn := fun _ => []) (fun _ _ h => by cases h)) (by kernel_rfl) (hi_of (by kernel_rfl))).1
end Go.Proofs.YtdhcabbngddboaaGreatDoor
