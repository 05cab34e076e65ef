import Derived.Test.YtdhcabbngddboaaGreatDoorTA
import Derived.Test.YtdhcabbngddboaaGreatDoorTB
import Derived.Test.YtdhcabbngddboaaGreatDoorTC
import Derived.Test.YtdhcabbngddboaaGreatDoorF9
import Derived.Test.YtdhcabbngddboaaGreatDoorCards
namespace Go.Proofs.YtdhcabbngddboaaGreatDoor
open Go
theorem noOwnUnsafe : Tryz.pinned.checked.prog.headLifts.contains "ownunsafe" = false := by kernel_rfl
theorem tie : Tryz.prog.laidByTextLater laidL kindsL true :=
  Program.laidByTextLater_by_run_h 4000 8 f1 f2 f3 f4 f5 f6 f7 f8 f9 f10
theorem row_tie : Rows.playFormsRow.laidByTextAt .later Tryz.pinned kindsL true :=
  OpenClaim.laidByTextAt_later rfl rfl tie noOwnUnsafe
end Go.Proofs.YtdhcabbngddboaaGreatDoor

namespace Go.Proofs.YtdhcabbngddboaaGreatDoor
open Go
theorem named3' : Tryz.pinned.checked.prog.funcNamed Rows.playFormsRow.func = some 3 := named3
theorem wfText3 : Rows.playFormsRow.wfByText (OpenSpec.ofChange Rows.playFormsSpec) = true := by kernel_rfl
theorem mainIs3 : Tryz.pinned.checked.prog.mainIs = some (true, "407601c77f638fb00d4a95cfff84b766b9091b5085e5453eb1df5f179c13e9ba".toList) := by kernel_rfl
theorem looks3 : true = Tryz.pinned.checked.prog.looks [] := by kernel_rfl
theorem noGoes : (Tryz.pinned.checked.prog.funcs.any Func.goes) = false := by kernel_rfl
theorem goes_none {P : Program} (h : P.funcs.any Func.goes = false) (f : FuncId) : P.goes f = false := by
  have h' : ∀ g : FuncId, (P.funcs[g]?).any Func.goes = false := by
    intro g
    cases hg : P.funcs[g]? with
    | none => rfl
    | some fn =>
      have := (Array.any_eq_false.mp h) g (Array.getElem?_eq_some_iff.mp hg).1
      rw [(Array.getElem?_eq_some_iff.mp hg).2] at this
      simpa using this
  unfold Program.goes
  rw [h, Bool.and_false, Bool.or_false, List.any_eq_false]
  intro g _ hh
  rw [h' g] at hh
  cases hh
theorem goes3 : false = Rows.playFormsRow.goesBy Tryz.pinned.checked.prog := by
  have e : Tryz.pinned.checked.prog.goesFrom Rows.playFormsRow.func = false := by
    unfold Program.goesFrom
    rw [named3, Option.any_some]
    exact goes_none noGoes 3
  unfold OpenClaim.goesBy Program.goesAt
  rw [e]
  rfl
theorem hl3 : ∀ f fn, Tryz.pinned.checked.prog.funcNamed Rows.playFormsRow.func = some f → Tryz.pinned.checked.prog.funcs[f]? = some fn → true = Tryz.pinned.checked.prog.looks [] ∧ ∀ (j : Nat) t, fn.params[j]? = some t → Tryz.pinned.checked.prog.wantsStandIn t = false := by
  intro f fn hf hfn
  obtain rfl : f = 3 := Option.some.inj (named3'.symm.trans hf) |>.symm
  obtain rfl : fn = Tryz.f3 := (Option.some.inj (Tryz.func3.symm.trans hfn)).symm
  exact ⟨looks3, fun j t ht => by
    rw [Tryz.params3] at ht
    cases j <;> cases ht⟩
theorem card_holds : Rows.PlayFormsCardSaid :=
  Claim7.holds_tied_plain_at .later [] kindsL true (true, "407601c77f638fb00d4a95cfff84b766b9091b5085e5453eb1df5f179c13e9ba") true
    row_holds (fun _ h => by cases h) wfText3 (fun _ h => by cases h) row_tie rfl ⟨rfl, rfl⟩ mainIs3 rfl hl3 goes3
#print axioms card_holds
end Go.Proofs.YtdhcabbngddboaaGreatDoor
