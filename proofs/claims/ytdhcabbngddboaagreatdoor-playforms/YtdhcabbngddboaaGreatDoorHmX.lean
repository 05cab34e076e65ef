import Derived.Test.YtdhcabbngddboaaGreatDoorHmN
import Derived.Stop.Asserts
set_option linter.unusedVariables false
set_option linter.unusedSimpArgs false
namespace Go.HM

def isPtrD : TypeDesc → Bool | .pointer _ => true | _ => false
/-- the method of that name, by the dynamic type -/
noncomputable def methV (P : Program) (name : String) : Value → Option (Nat × Value)
  | .iface t v => (match P.info? t, P.underlying t with
    | some i, some d => (match i.methods.find? (·.name == name) with
      | some m => bif m.path.isEmpty then (match m.func with | some (f, pr) => bif isPtrD d == pr then some (f, v) else none | none => none) else none
      | none => none)
    | _, _ => none)
  | _ => none
theorem methV_ok (P : Program) (name : String) : MethOK P name (methV P name) := by
  intro x f v h
  unfold methV at h
  split at h
  · rename_i t v0
    split at h
    · rename_i i d hi hd
      split at h
      · rename_i m hm
        cases hp : m.path.isEmpty with
        | false => rw [hp] at h; cases h
        | true =>
          rw [hp] at h
          simp only [cond_true] at h
          split at h
          · rename_i f' pr hf
            cases hq : (isPtrD d == pr) with
            | false => rw [hq] at h; cases h
            | true =>
              rw [hq] at h; cases h
              refine ⟨t, rfl, fun n v' w => ?_⟩
              have hpath : m.path.toList = [] := by simpa using hp
              have hu : (underlying t).run P w = .ok d w := run_und hd
              simp only [Go.method, Sem.run_bind, run_tinfo hi, Result.andThen_ok, hm, hpath, follow, Sem.run_pure, hf, receiverAt, hu]
              cases d <;> cases pr <;> simp [isPtrD] at hq <;> simp [Place.get]
          · cases h
      · cases h
    · cases h
  · cases h

/-- an interface value asked for an interface, comma ok -/
noncomputable def vTA (P : Program) (want : Array (String × TypeId)) (z : Value) : F1
  | .iface t v => (match P.info? t with
    | some i => bif (lacking want i.methods).isEmpty then some (.tuple ⟨[.iface t v, .bool true]⟩) else some (.tuple ⟨[z, .bool false]⟩)
    | none => none)
  | _ => none
theorem vTA_ok {P : Program} {o : Oper} {x : Operand} {xT asserted : TypeId} {want : Array (String × TypeId)} {z : Value} {j : TypeInfo} (ho : o.op = .typeAssert x xT asserted true) (hu : P.underlying asserted = some (.interface want)) (hj : P.info? asserted = some j) (hz : j.zero = some z)
    (hp : plain 100 z = true) : PureOK P o (f1 (vTA P want z)) := by
  intro ρ w e l v hl hv
  have hl' : VRs ρ l [e x] := by simpa [Op.operands, ho] using hl
  obtain ⟨a, rfl, ha⟩ := hl'.one
  simp only [f1] at hv
  unfold vTA at hv
  split at hv
  · rename_i t v0
    split at hv
    · rename_i i hi
      generalize hx : e x = ex at ha
      cases ha with
      | iface _ hv0 =>
      rename_i v0'
      cases hb : (lacking want i.methods).isEmpty with
      | true =>
        rw [hb] at hv; cases hv
        refine ⟨.tuple #[.iface t v0', .bool true], ?_, .tuple (.cons (.iface t hv0) (.cons (.bool true) .nil))⟩
        unfold execOp; rw [ho]
        simp only [hx, Sem.run_bind, run_typeAssert_has hu hi (List.isEmpty_iff.1 hb), Result.andThen_ok, Sem.run_pure]
      | false =>
        rw [hb] at hv; cases hv
        refine ⟨.tuple #[z, .bool false], ?_, .tuple (.cons (plain_VR _ _ hp ρ) (.cons (.bool false) .nil))⟩
        unfold execOp; rw [ho]
        simp only [hx, Sem.run_bind, run_typeAssert_lacks hu hi hj hz (fun h => by rw [h] at hb; cases hb), Result.andThen_ok, Sem.run_pure]
    · cases hv
  · cases hv
end Go.HM
