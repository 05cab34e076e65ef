import Derived.Test.YtdhcabbngddboaaGreatDoorHmMemo
import Derived.Test.YtdhcabbngddboaaGreatDoorHmTab
set_option linter.unusedVariables false
namespace Go.HM.Dt
abbrev ad (b : Nat) : Addr := ⟨b, 0, none⟩
abbrev ao (b o : Nat) : Addr := ⟨b, o, none⟩
abbrev I (n : Int) : Value := .int .i64 n
abbrev U (n : Int) : Value := .int .u8 n
abbrev E : Value := .string ⟨⟨[]⟩⟩
abbrev S (l : List UInt8) : Value := .string ⟨⟨l⟩⟩
abbrev NP : Value := .pointer none
abbrev P (b : Nat) : Value := .pointer (some ⟨b, 0, none⟩)
abbrev L (b o l c : Nat) : Value := .slice (some ⟨b, o, none⟩) l c
noncomputable def Z (n : Nat) : List Value := Nat.rec (motive := fun _ => List Value) [] (fun _ ih => .int .u8 0 :: ih) n
noncomputable def B (l : List Int) : List Value := List.rec (motive := fun _ => List Value) [] (fun x _ ih => .int .u8 x :: ih) l
noncomputable def Q (c : Nat) (l : List Nat) : List Value := List.rec (motive := fun _ => List Value) [] (fun b _ ih => .slice (some ⟨b, 0, none⟩) 128 c :: ih) l
noncomputable def mk (k : Nat) (l : List (Nat × HO)) (t : TM) : TM := List.rec (motive := fun _ => TM → TM) (fun t => t) (fun x _ ih t => ih (t.set x.1 x.2)) l t
end Go.HM.Dt

set_option maxRecDepth 1000000
set_option linter.unusedVariables false
namespace Go.HM.Dt
noncomputable def cfg : Cfg := { R := 1000, G := 26, fi := 175, sz := 1, gIs := 13, gT := 24, T0 := 605, RT := 121, NG := 26 }
noncomputable def globs : Nat → TM → TM
  | 0, t => t
  | g + 1, t => (bif Nat.beq g 1 || Nat.beq g 19 then globs g t else (globs g t).set g (.ext [.iface 605 (.complex .f64 (100 + g) 0)]))
noncomputable def base : TM := globs 26 .lf
noncomputable def s0 : M := ⟨1000, base⟩
end Go.HM.Dt
