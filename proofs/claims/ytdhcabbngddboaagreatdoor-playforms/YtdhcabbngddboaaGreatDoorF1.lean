import Derived.Test.YtdhcabbngddboaaGreatDoorRows
import Derived.Test.YtdhcabbngddboaaGreatDoorHmSeat
import Derived.Test.YtdhcabbngddboaaGreatDoorLit
set_option maxRecDepth 1000000
set_option linter.unusedVariables false
namespace Go.Proofs.YtdhcabbngddboaaGreatDoor
open Go Go.HM
noncomputable def cfg : Cfg := { R := 1000, G := 26, fi := 175, sz := 1, gIs := 13, gT := 24, T0 := 605, RT := 121, NG := 26 }
theorem mix : Tryz.prog.follows .mixedOrders = true := by kernel_rfl
theorem names0 : (Tryz.prog.funcs.toList.map (fun f => f.name == "runtime.NumGoroutine")).all (fun b => !b) = true := by kernel_rfl
theorem names (g : Nat) (fn : Func) (h : Tryz.prog.funcs[g]? = some fn) : fn.name ≠ "runtime.NumGoroutine" := by
  have h1 := List.all_eq_true.1 names0 (fn.name == "runtime.NumGoroutine") (List.mem_map_of_mem (Array.mem_toList_iff.2 (Array.mem_of_getElem? h)))
  simpa using h1
noncomputable def codeOf (g : Nat) : Code := bodyC Tryz.prog g
theorem chunkFn : ChunkFn Tryz.prog 1000 26 175 1 :=
  chunkFn_of (B := bodyC Tryz.prog 175) (by omega) mix Tryz.func175 (names 175 _ Tryz.func175) (by kernel_rfl) (by kernel_rfl) (by kernel_rfl) (by kernel_rfl) (by kernel_rfl) (by kernel_rfl) (by kernel_rfl) (by kernel_rfl) (by kernel_rfl) (by kernel_rfl) (by kernel_rfl)
    (by kernel_rfl) (by kernel_rfl) (by kernel_rfl) (by kernel_rfl)
theorem isOK : IsOK Tryz.prog cfg :=
  isOK_of (c := cfg) (B := bodyC Tryz.prog 13) (gC := 468) Tryz.func13 (names 13 _ Tryz.func13) (by kernel_rfl) (by kernel_rfl) (by kernel_rfl) (by kernel_rfl) (by kernel_rfl) (by kernel_rfl) (by kernel_rfl) (by kernel_rfl) (by kernel_rfl) (by kernel_rfl) (by kernel_rfl)
    (by kernel_rfl) (by kernel_rfl) (by kernel_rfl) (by kernel_rfl) (by kernel_rfl) (by kernel_rfl)
    (fun v w => by
      have h := run_callFunc_extern (e := Extern.ReflectliteType.typeOf) Tryz.func24 (by kernel_rfl) (by kernel_rfl) (by kernel_rfl) (by kernel_rfl) #[.iface 605 v] w
      have h2 : (Extern.ReflectliteType.typeOf #[.iface 605 v]).run Tryz.prog w = .ok (.iface 121 (.agg #[.pointer (some ⟨26, 605, none⟩)])) w := by kernel_rfl
      rw [h2] at h; exact h)
    (fun v w => by kernel_rfl)
    (fun w => by
      have h := run_callFunc_extern (e := (Extern.find Tryz.f468).getD (fun _ => pure .nilIface)) Tryz.func468 (by kernel_rfl) (by kernel_rfl) (by kernel_rfl) (by kernel_rfl) #[.agg #[.pointer (some ⟨26, 605, none⟩)]] w
      have h2 : (((Extern.find Tryz.f468).getD (fun _ => pure .nilIface)) #[.agg #[.pointer (some ⟨26, 605, none⟩)]]).run Tryz.prog w = .ok (.bool true) w := by kernel_rfl
      rw [h2] at h; exact h)
theorem tabOK {kn : Nat → List Known} (hk : ∀ g, ∀ k ∈ kn g, KnownOK Tryz.prog 1000 26 g k) : ∀ g d, tab Tryz.prog cfg kn g = some d → FDOK Tryz.prog 1000 26 g d :=
  tab_ok (c := cfg) (by show 26 ≤ 1000; omega) mix chunkFn isOK names hk
end Go.Proofs.YtdhcabbngddboaaGreatDoor
