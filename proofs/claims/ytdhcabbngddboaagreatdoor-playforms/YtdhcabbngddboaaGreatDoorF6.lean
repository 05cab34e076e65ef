import Derived.Test.YtdhcabbngddboaaGreatDoorF5
import Derived.ProofKit
set_option maxRecDepth 1000000
set_option linter.unusedVariables false
namespace Go.Proofs.YtdhcabbngddboaaGreatDoor
open Go Go.HM Go.ChangeShapes Go.WideShapes Go.ChangeAt Go.RowKit

theorem own : ownKnob Tryz.prog.godebug = none := by kernel_rfl
def textOf (d : DataW Unit) : List UInt8 := match d with | .iface _ (.ptr (.agg [.lit (.string s)])) => s | _ => []
noncomputable def low : Nat := (World.holding Tryz.prog default ⟨#[], #[], []⟩).heap.size
def setG (v : Value) : Obj → Obj
  | .cells _ t frozen => .cells #[v] t frozen
  | o => o
/-- A world that meets the condition: the settled one, the listed variables laid. -/
noncomputable def laidWorld (os : Os) : World :=
  let w0 := World.holding Tryz.prog os ⟨(laidN.map fun x => Obj.cells #[.string ⟨⟨textOf x.2⟩⟩] 627).toArray, #[], []⟩
  { w0 with heap := (laidN.zipIdx.foldl (fun h x => h.modify ((Tryz.prog.globalNamed x.1.1).getD 0) (setG (.iface 605 (.pointer (some ⟨low + x.2, 0, none⟩))))) w0.heap).modify 1 (setG (.iface 121 (.agg #[.pointer (some ⟨26, 68, none⟩)]))) }
noncomputable abbrev lw (os : Os) (args : Array Value) : World := (laidWorld os).forCall (fun _ _ => 0) ⟨#[], args, []⟩
theorem met1 (os : Os) : (DataW.laidRun Tryz.prog (lw os #[]).memory 8 (laidN.map (·.1))).map (·.1) = some laidN := by kernel_rfl
theorem met2 (os : Os) : (DataW.laidRun Tryz.prog (lw os #[]).memory 8 (laidN.map (·.1))).map (fun x => decide x.2.Nodup && laidRowsB Tryz.prog (lw os #[]).memory x.2) = some true := by kernel_rfl
theorem met3 (os : Os) : (laidAll.filter fun x => x.2.handleName?.isSome).all (handleAtB Tryz.prog (lw os #[]).memory) = true := by kernel_rfl
theorem laidWorld_met (os : Os) : laidMetH Tryz.prog laidAll (lw os #[]).memory := laidMetH_of_parts (laidMet_of_run' 8 (met1 os) (met2 os)) (met3 os)
theorem wit1 (os : Os) : (lw os #[]).variablesB Tryz.prog = true := by kernel_rfl
theorem wit2 (os : Os) : ((lw os #[]).heap.toList.drop Tryz.prog.globals.size).take ((begin Tryz.prog (fun _ _ => 0) default).world.heap.size - Tryz.prog.globals.size) = (begin Tryz.prog (fun _ _ => 0) default).world.heap.toList.drop Tryz.prog.globals.size := by kernel_rfl
theorem wit3 (os : Os) : Input.okWideB Tryz.prog (lw os #[]) 3 ⟨#[], #[], []⟩ = true := by kernel_rfl
theorem wit4 (os : Os) (H : Type) (enc : TypeId × Value → H) : Rows.playFormsSpec.preB enc Tryz.prog Tryz.f3 [] false (lw os #[]).memory #[] 8 = true := by kernel_rfl
theorem wit5 (os : Os) (H : Type) (enc : TypeId × Value → H) : Rows.playFormsSpec.sizedB enc Tryz.prog Tryz.f3 false (lw os #[]).memory #[] 8 = true := by kernel_rfl
end Go.Proofs.YtdhcabbngddboaaGreatDoor
