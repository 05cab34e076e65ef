/-
  DERIVED. GIVEN WITH THE SEED: THE CARDS: each row of YtdhcabbngddboaaGreatDoorRows.lean that lists a variable, with what it lists TIED to the program's text (the seventh form; the later family's looks); each row that meets fmt, with fmt's text TOLD by the authors' own Lean function (tested against real Go, not proved from fmt's source: count such statements apart). THE CARD IS WHAT COUNTS. Prove the row's statement (the work); the ties are given (YtdhcabbngddboaaGreatDoorTie.lean); close each card by the builder's one call (the guide's Derived/Test/ToyasCard.lean, 'card_holds'). Laid BY PROGRAM, IN A SANDBOX (cutbox-door.mjs). By AI agents, Wed Nov 11 2026. No macro, syntax, notation, axiom, sorry.
-/
import Derived.Test.YtdhcabbngddboaaGreatDoorRows
import GoSem.ClaimSeven
namespace Go.Proofs.YtdhcabbngddboaaGreatDoor
namespace Rows

/-- THE TIED CARD OF 'rabbetlaw30.PlayForms'. -/
def playFormsCard : Claim7 := { stood := { row := playFormsRow, standIns := [], harness := (true, "407601c77f638fb00d4a95cfff84b766b9091b5085e5453eb1df5f179c13e9ba"), looks := true }, kinds := [], alts := [], laidByText := true, laidKinds := [.sentinel, .sentinel, .sentinel, .sentinel, .sentinel, .sentinel, .sentinel, .sentinel, .sentinel, .sentinel, .sentinel, .sentinel, .sentinel, .sentinel, .handle, .sentinel, .sentinel, .sentinel, .sentinel, .sentinel, .sentinel, .sentinel, .sentinel, .sentinel, .sentinel], laidTests := true, laidLooks := .later }
def PlayFormsCardSaid : Prop := Claim7.holds Tryz.pinned (.plain (OpenSpec.ofChange playFormsSpec)) playFormsCard

/-- THE SECOND FORM's CARD OF 'rabbetlaw30.PlayForms'. -/
def playFormsUptoCard : Claim7 := { stood := { row := playFormsUptoRow, standIns := [], harness := (true, "407601c77f638fb00d4a95cfff84b766b9091b5085e5453eb1df5f179c13e9ba"), looks := true }, kinds := [], alts := [], laidByText := true, laidKinds := [.sentinel, .sentinel, .sentinel, .sentinel, .sentinel, .sentinel, .sentinel, .sentinel, .sentinel, .sentinel, .sentinel, .sentinel, .sentinel, .sentinel, .handle, .sentinel, .sentinel, .sentinel, .sentinel, .sentinel, .sentinel, .sentinel, .sentinel, .sentinel, .sentinel], laidTests := true, laidLooks := .later }
def PlayFormsUptoCardSaid : Prop := Claim7.holds Tryz.pinned (.plain (OpenSpec.upto playFormsSpec)) playFormsUptoCard
end Rows
end Go.Proofs.YtdhcabbngddboaaGreatDoor
