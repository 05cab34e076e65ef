import Derived.Test.YtdhcabbngddboaaGreatDoorPk4
set_option maxRecDepth 1000000
namespace Go.Proofs.YtdhcabbngddboaaGreatDoor
open Go Go.HM
noncomputable def kn3 : Nat → List Known := fun g => bif Nat.beq g 4 then [K4] else []
theorem kn3_ok : ∀ g, ∀ k ∈ kn3 g, KnownOK Tryz.prog 1000 26 g k := by
  intro g k hk
  unfold kn3 at hk
  cases h1 : Nat.beq g 4 with
  | true =>
    rw [h1] at hk
    have := Nat.eq_of_beq_eq_true h1; subst this
    rcases List.mem_singleton.1 hk with rfl
    exact k4_ok
  | false => rw [h1] at hk; cases hk
def isT : Res → Bool | some (.bool true, _) => true | _ => false
theorem isT_spec {r : Res} (h : isT r = true) : ∃ s, r = some (.bool true, s) := by
  unfold isT at h
  split at h
  · exact ⟨_, rfl⟩
  · cases h
theorem run3 : isT (evF (tab Tryz.prog cfg kn3) 200 3 [] Dt.s0 KS) = true := by kernel_rfl
theorem sim3 : ∃ s', Dt.s0.next ≤ s'.next ∧ SimCall Tryz.prog 1000 26 3 [] Dt.s0 (.bool true) s' := by
  obtain ⟨s, hs⟩ := isT_spec run3
  obtain ⟨v, s', h1, h2, _, h3⟩ := evF_ok (by omega) (tabOK kn3_ok) 200 3 [] Dt.s0 KS _ hs
  have := (h1 KS).symm.trans hs
  simp only [KS, Option.some.injEq, Prod.mk.injEq] at this
  obtain ⟨rfl, rfl⟩ := this
  exact ⟨s', h2, h3⟩
end Go.Proofs.YtdhcabbngddboaaGreatDoor
