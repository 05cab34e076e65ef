import Derived.Test.YtdhcabbngddboaaGreatDoorHmTab
set_option linter.unusedVariables false
namespace Go.HM
/-- nothing lies behind a number -/
noncomputable def hiTM (n : Nat) (t : TM) : Nat → Nat → Bool :=
  TM.rec (motive := fun _ => Nat → Nat → Bool) (fun _ _ => true)
    (fun _ v _ ihl ihr c m => (isNo v || Nat.ble c n) && (ihl (Nat.add c m) (Nat.mul 2 m) && ihr (Nat.add c (Nat.mul 2 m)) (Nat.mul 2 m))) t
theorem hiTM_spec {n : Nat} : ∀ {t : TM} {c m : Nat}, hiTM n t c m = true → ∀ j, t.get j = .no ∨ c + m * j ≤ n := by
  intro t
  induction t with
  | lf => intro c m _ j; exact .inl rfl
  | nd l v r ihl ihr =>
    intro c m h j
    have h' : ((isNo v || Nat.ble c n) && (hiTM n l (Nat.add c m) (Nat.mul 2 m) && hiTM n r (Nat.add c (Nat.mul 2 m)) (Nat.mul 2 m))) = true := h
    simp only [Bool.and_eq_true, Bool.or_eq_true] at h'
    rw [TM.get_nd]
    by_cases h0 : j = 0
    · subst h0
      rw [if_pos rfl]
      rcases h'.1 with h1 | h1
      · exact .inl (isNo_eq h1)
      · right; have := Nat.le_of_ble_eq_true h1; omega
    · rw [if_neg h0]
      by_cases h1 : j % 2 = 1
      · rw [if_pos h1]
        rcases ihl h'.2.1 (j / 2) with h2 | h2
        · exact .inl h2
        · right
          have e : j = 2 * (j / 2) + 1 := by omega
          have : c + m * j = Nat.add c m + Nat.mul 2 m * (j / 2) := by
            show _ = c + m + 2 * m * (j / 2)
            conv => lhs; rw [e]
            rw [Nat.mul_add, Nat.mul_one, ← Nat.mul_assoc, Nat.mul_comm m 2]; omega
          omega
      · rw [if_neg h1]
        rcases ihr h'.2.2 (j / 2 - 1) with h2 | h2
        · exact .inl h2
        · right
          have e : j = 2 * (j / 2 - 1) + 2 := by omega
          have : c + m * j = Nat.add c (Nat.mul 2 m) + Nat.mul 2 m * (j / 2 - 1) := by
            show _ = c + 2 * m + 2 * m * (j / 2 - 1)
            conv => lhs; rw [e]
            rw [Nat.mul_add, ← Nat.mul_assoc, Nat.mul_comm m 2]; omega
          omega
theorem hi_of {n : Nat} {t : TM} (h : hiTM n t 0 1 = true) : ∀ j, n < j → t.get j = .no := by
  intro j hj
  rcases hiTM_spec h j with h1 | h1
  · exact h1
  · omega
end Go.HM
