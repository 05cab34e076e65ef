import Derived.Test.YtdhcabbngddboaaGreatDoorPk36
import Derived.Test.YtdhcabbngddboaaGreatDoorPk37x
import Derived.Test.YtdhcabbngddboaaGreatDoorPk37y
set_option maxRecDepth 1000000
namespace Go.Proofs.YtdhcabbngddboaaGreatDoor
open Go Go.HM
noncomputable def kn4 : Nat → List Known := fun g => bif Nat.beq g 36 then [Dt.Kk36] else bif Nat.beq g 37 then [Dt.Kk37x, Dt.Kk37y] else []
theorem kn4_ok : ∀ g, ∀ k ∈ kn4 g, KnownOK Tryz.prog 1000 26 g k := by
  intro g k hk
  unfold kn4 at hk
  cases h1 : Nat.beq g 36 with
  | true =>
    rw [h1] at hk
    have := Nat.eq_of_beq_eq_true h1; subst this
    rcases List.mem_singleton.1 hk with rfl
    exact k36_ok
  | false =>
    rw [h1] at hk
    cases h2 : Nat.beq g 37 with
    | true =>
      rw [h2] at hk
      have := Nat.eq_of_beq_eq_true h2; subst this
      rcases List.mem_cons.1 hk with rfl | hk
      · exact k37x_ok
      · rcases List.mem_singleton.1 hk with rfl
        exact k37y_ok
    | false => rw [h2] at hk; cases hk
noncomputable def K4 : Known := ⟨[], Dt.s0, .bool true, ⟨6602, Dt.base⟩⟩
theorem k4_ok : KnownOK Tryz.prog 1000 26 4 K4 :=
  (known_of (g := 4) (n := 200) (k := K4) (by omega) (tabOK kn4_ok) (by kernel_rfl) (hi_of (by kernel_rfl))).1
end Go.Proofs.YtdhcabbngddboaaGreatDoor
