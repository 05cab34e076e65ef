import Derived.Test.YtdhcabbngddboaaGreatDoorHmO
set_option linter.unusedVariables false
set_option linter.unusedSimpArgs false
namespace Go.HM
theorem args0_get (N : Nat) : ∀ (args : List Value) (i : Nat) (fr : Fr) (t : Nat), (args0 i args fr).get (Pt.ofNat t) = if i ≤ t ∧ t < i + args.length then args.getD (t - i) undefV else fr.get (Pt.ofNat t) := by
  intro args
  induction args with
  | nil => intro i fr t; rw [if_neg (by simp)]; rfl
  | cons v vs ih =>
    intro i fr t
    show (args0 (i + 1) vs (fr.set (Pt.ofNat i) v)).get (Pt.ofNat t) = _
    rw [ih]
    by_cases h : i + 1 ≤ t ∧ t < i + 1 + vs.length
    · rw [if_pos h, if_pos (by simp; omega), show t - i = (t - (i + 1)) + 1 by omega]; simp
    · rw [if_neg h, Fr.get_set]
      by_cases e : t = i
      · subst e; rw [if_pos rfl, if_pos (by simp)]; simp
      · rw [if_neg (fun h => e (Pt.ofNat_inj h)), if_neg (by simp; omega)]
theorem args_rel {N : Nat} {ρ : Rho} {args args' : List Value} (h : VRs ρ args args') (hle : args.length ≤ N) : FrR N ρ (args0 0 args .lf) (⟨args'⟩ ++ Array.replicate (N - (⟨args'⟩ : Array Value).size) undef) := by
  have hl := h.length
  refine ⟨by simp; omega, fun t ht => ?_⟩
  rw [args0_get N]
  by_cases hlt : t < args.length
  · rw [if_pos (by omega)]
    have hg : args[t]? = some (args.getD (t - 0) undefV) := by simp [List.getD_eq_getElem?_getD, hlt]
    obtain ⟨v', h1, h2⟩ := h.get hg
    have : (⟨args'⟩ ++ Array.replicate (N - (⟨args'⟩ : Array Value).size) undef : Array Value).getD t undef = v' := by
      have hlt' : t < args'.length := by omega
      rw [Array.getD_eq_getD_getElem?, Array.getElem?_append_left (by simpa using hlt')]
      simp only [List.getElem?_toArray, h1, Option.getD_some]
    rw [this]; exact h2
  · rw [if_neg (by omega), Fr.get_lf]
    have : (⟨args'⟩ ++ Array.replicate (N - (⟨args'⟩ : Array Value).size) undef : Array Value).getD t undef = undef := by
      rw [Array.getD_eq_getD_getElem?, Array.getElem?_append_right (by simp; omega)]
      simp only [Array.getElem?_replicate]
      split <;> rfl
    rw [this]; exact VRundef ρ

end Go.HM
