import Derived.Test.YtdhcabbngddboaaGreatDoorHmB
import Derived.Laws.Sem
import Derived.Laws.Cells
import Derived.Laws.IdiomCopy
import Derived.IntWalk
set_option linter.unusedVariables false
set_option linter.unusedSimpArgs false
namespace Go.HM

/-! ### types -/
def isAggB : TypeDesc → Bool | .struct _ | .array _ _ => true | _ => false
def tyD (P : Program) (t : Nat) : Option TD :=
  match P.info? t, P.underlying t with
  | some i, some u =>
    some { size := i.size, agg := isAggB u,
           zero := (match i.zero with | some v => v.cells.toList | none => []), desc := u,
           fields := (match u with
             | .struct fs => fs.toList.map fun f => (f.offset, (match P.info? f.type with | some j => j.size | none => 0), (match P.underlying f.type with | some u => isAggB u | none => false))
             | _ => []) }
  | _, _ => none

theorem tyD_spec {P : Program} {t : Nat} {d : TD} (h : tyD P t = some d) :
    ∃ i, P.info? t = some i ∧ P.underlying t = some d.desc ∧ d.size = i.size ∧ d.agg = isAggB d.desc ∧
      d.zero = (match i.zero with | some v => v.cells.toList | none => []) ∧
      d.fields = (match d.desc with
             | .struct fs => fs.toList.map fun f => (f.offset, (match P.info? f.type with | some j => j.size | none => 0), (match P.underlying f.type with | some u => isAggB u | none => false))
             | _ => []) := by
  unfold tyD at h
  split at h
  · rename_i i u hi hu
    cases h
    exact ⟨i, hi, hu, rfl, rfl, rfl, rfl⟩
  · cases h

section
variable {P : Program} {w : World}
theorem run_und {t : Nat} {d : TypeDesc} (h : P.underlying t = some d) : (underlying t).run P w = .ok d w := by
  simp [underlying, h]
theorem run_tinfo {t : Nat} {i : TypeInfo} (h : P.info? t = some i) : (typeInfo t).run P w = .ok i w := by
  simp [typeInfo, h]
theorem run_szOf {t : Nat} {i : TypeInfo} (h : P.info? t = some i) : (sizeOf t).run P w = .ok i.size w := by
  simp [sizeOf, run_tinfo h]
theorem run_zero {t : Nat} {i : TypeInfo} {z : Value} (h : P.info? t = some i) (hz : i.zero = some z) : (zeroValue t).run P w = .ok z w := by
  simp [zeroValue, run_tinfo h, hz]
theorem run_isAggD {t : Nat} {d : TypeDesc} (h : P.underlying t = some d) : (isAgg t).run P w = .ok (isAggB d) w := by
  unfold isAgg
  simp only [Sem.run_bind, run_und h, Result.andThen_ok]
  cases d <;> rfl
end
end Go.HM
