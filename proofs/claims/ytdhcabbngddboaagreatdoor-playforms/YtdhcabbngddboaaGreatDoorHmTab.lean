import Derived.Test.YtdhcabbngddboaaGreatDoorHmMemo
set_option linter.unusedVariables false
set_option linter.unusedSimpArgs false
namespace Go.HM

/-! ### errors.Is, ahead of its loop: is the target's type one whose values may be compared? -/
def vTypeOf (gT T0 RT NG : Nat) : F2
  | .func (.func g) ⟨[]⟩ ⟨[]⟩, .iface t _ => bif Nat.beq g gT && Nat.beq t T0 then some (.iface RT (.agg ⟨[.complex .f32 NG T0]⟩)) else none
  | _, _ => none
def vCmp (RT NG T0 : Nat) : F1
  | .iface t (.agg ⟨[.complex .f32 a b]⟩) => bif Nat.beq t RT && (Nat.beq a NG && Nat.beq b T0) then some (.bool true) else none
  | _ => none
structure Cfg where
  R : Nat
  G : Nat
  fi : Nat
  sz : Nat
  gIs : Nat
  gT : Nat
  T0 : Nat
  RT : Nat
  NG : Nat
noncomputable def isHs (c : Cfg) : List HR := [⟨some (T 15), none, .mv (.t (T 1))⟩, ⟨some (T 16), none, .p2 (vTypeOf c.gT c.T0 c.RT c.NG) (.c (.func (.func c.gT) #[] #[])) (.t (T 15))⟩, ⟨some (T 17), none, .p1 (vCmp c.RT c.NG c.T0) (.t (T 16))⟩, ⟨some (T 5), none, .mv (.t (T 17))⟩]
noncomputable def isHC (P : Program) (c : Cfg) (R0 R1 R4 : Code) : HC := .seq (cC P c.R c.G 22 R0) (.seq (cC P c.R c.G 22 R1) (.seq (.region (isHs c)) (cC P c.R c.G 22 R4)))
noncomputable def isHF (P : Program) (c : Cfg) (fn : Func) : Option HF :=
  match fn.body with
  | some (.seq R0 (.seq R1 (.seq _ R4))) => some ⟨22, .code (isHC P c R0 R1 R4), [.t (T 4)]⟩
  | _ => none
noncomputable def hfOf (P : Program) (c : Cfg) (g : Nat) : Option HF :=
  match P.funcs[g]? with
  | some f => bif Nat.beq g c.gIs then isHF P c f else cF P c.R c.G c.fi c.sz f
  | none => none
noncomputable def tab (P : Program) (c : Cfg) (kn : Nat → List Known) (g : Nat) : Option FD :=
  match hfOf P c g with
  | some h => (match kn g with
    | [] => some (.code h)
    | k :: ks => some (.nat (knownF (k :: ks) (codeF h))))
  | none => none

/-- what is asked of errors.Is -/
def IsOK (P : Program) (c : Cfg) : Prop :=
  ∃ (fn : Func) (R0 R1 R4 : Code) (id3 : Nat) (ops3 : Array Oper) (o1 o2 : Oper) (a1 a2 : Array TypeId),
    P.funcs[c.gIs]? = some fn ∧ fn.name ≠ "runtime.NumGoroutine" ∧ fn.ntmps = 22 ∧ fn.results = #[.tmp 4] ∧
    fn.body = some (.seq R0 (.seq R1 (.seq (.region id3 ops3 false) R4))) ∧
    RegOK P c.R c.G 22 ops3 0 (isHs c)

theorem is_ok {P : Program} {c : Cfg} (hG : c.G ≤ c.R) (hmix : P.follows .mixedOrders = true) (h : IsOK P c) {fn : Func} {hf : HF} (hfn : P.funcs[c.gIs]? = some fn) (hc : isHF P c fn = some hf) : FnOK P c.R c.G fn hf := by
  obtain ⟨fn', R0, R1, R4, id3, ops3, o1, o2, a1, a2, e1, e2, e3, e4, e5, e6⟩ := h
  rw [hfn] at e1; cases e1
  unfold isHF at hc
  rw [e5] at hc
  cases hc
  refine ⟨e3.symm, e2, ⟨_, e5, ?_⟩, ?_⟩
  · rw [e3]
    exact .code (.seq (cC_ok hG hmix R0) (.seq (cC_ok hG hmix R1) (.seq (.region e6) (cC_ok hG hmix R4))))
  · rw [e3, e4]
    exact .cons (.t (by omega)) .nil

theorem tab_ok {P : Program} {c : Cfg} {kn : Nat → List Known} (hG : c.G ≤ c.R) (hmix : P.follows .mixedOrders = true) (hch : ChunkFn P c.R c.G c.fi c.sz) (his : IsOK P c) (hnm : ∀ (g : Nat) (fn : Func), P.funcs[g]? = some fn → fn.name ≠ "runtime.NumGoroutine")
    (hk : ∀ g, ∀ k ∈ kn g, KnownOK P c.R c.G g k) : ∀ g d, tab P c kn g = some d → FDOK P c.R c.G g d := by
  intro g d hd
  unfold tab at hd
  split at hd
  case h_2 => cases hd
  case h_1 h hh =>
  have hfok : ∃ fn, P.funcs[g]? = some fn ∧ FnOK P c.R c.G fn h := by
    unfold hfOf at hh
    split at hh
    case h_2 => cases hh
    case h_1 f hf =>
    cases hb : Nat.beq g c.gIs with
    | true =>
      rw [hb] at hh
      have := Nat.eq_of_beq_eq_true hb; subst this
      exact ⟨f, hf, is_ok hG hmix his hf hh⟩
    | false =>
      rw [hb] at hh
      exact ⟨f, hf, cF_ok hG hmix hch (hnm g f hf) hh⟩
  obtain ⟨fn, hfn, hok⟩ := hfok
  split at hd
  · cases hd; exact ⟨fn, hfn, hok⟩
  · rename_i k ks hks
    cases hd
    obtain ⟨cb, hb, _⟩ := hok.body
    exact knownF_ok hG ⟨fn, hfn, by rw [hb]; rfl, hok.name⟩ (codeF_ok hG hfn hok) (by rw [← hks]; exact hk g)
end Go.HM
