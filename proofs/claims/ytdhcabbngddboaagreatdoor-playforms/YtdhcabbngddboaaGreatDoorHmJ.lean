import Derived.Test.YtdhcabbngddboaaGreatDoorHmI
set_option linter.unusedVariables false
set_option linter.unusedSimpArgs false
namespace Go.HM

def upd (ρ : Rho) (id : Nat) (st : St) : Rho := fun i => if i = id then some st else ρ i
theorem upd_same (ρ : Rho) (id : Nat) (st : St) : upd ρ id st id = some st := by simp [upd]
theorem upd_other {ρ : Rho} {id i : Nat} {st : St} (h : i ≠ id) : upd ρ id st i = ρ i := by simp [upd, h]
theorem upd_le_new {ρ : Rho} {id : Nat} {st : St} (h : ρ id = none) : ρ.le (upd ρ id st) := fun i s hi =>
  ⟨s, by rw [upd_other (fun e => by subst e; rw [h] at hi; cases hi)]; exact hi, .inl rfl⟩
theorem upd_le_dead {ρ : Rho} {id : Nat} {l : Loc} (hl : ρ id = some (.live l)) : ρ.le (upd ρ id .dead) := fun i s hi => by
  by_cases e : i = id
  · subst e; rw [hl] at hi; cases hi; exact ⟨.dead, upd_same _ _ _, .inr ⟨rfl, l, rfl⟩⟩
  · exact ⟨s, by rw [upd_other e]; exact hi, .inl rfl⟩

theorem sim_alloc {G R B : Nat} {ρ : Rho} {m : M} {w w' : World} {c : Obj} {o : HO} {tot : Nat} (hs : Sim G B ρ m w) (hR : R ≤ m.next) (hB : m.next < B) (ha : AllocW w c w')
    (ho : ∀ ρ', ρ.le ρ' → ρ' m.next = some (.live ⟨w.heap.size, 0, tot⟩) → OR ρ' ⟨w.heap.size, 0, tot⟩ o (some c)) :
    Ext R B ρ m w (upd ρ m.next (.live ⟨w.heap.size, 0, tot⟩)) (alloc m o) w' ∧ Sim G B (upd ρ m.next (.live ⟨w.heap.size, 0, tot⟩)) (alloc m o) w' := by
  have hn := hs.fresh m.next (Nat.le_refl _) hB
  have hle : ρ.le (upd ρ m.next (.live ⟨w.heap.size, 0, tot⟩)) := upd_le_new hn
  have hold : ∀ k, k < w.heap.size → w'.heap[k]? = w.heap[k]? := by
    intro k hk
    rw [ha.heap, Array.getElem?_push, if_neg (by omega)]
  refine ⟨⟨hle, by simp [alloc], fun id h hlt => ⟨by rw [upd_other (by omega)]; exact h, ?_⟩, fun id h => ⟨upd_other (by omega), ?_⟩, fun id h => ⟨upd_other (by omega), fun l hl => hold _ (hs.blk _ _ hl)⟩, ha.os, ha.tape, ha.output, by rw [ha.heap]; simp, fun b hb _ => hold b hb, fun id l h => ?_⟩, ⟨fun id l hlB h => ?_, fun i j l l' hi hj he => ?_, fun id l h => ?_, fun id h h2 => ?_, fun id h => ?_, fun id h => ?_, fun g hg => ?_, fun i a0 h => ?_⟩⟩
  · show (m.mem.set m.next o).get id = _
    rw [TM.get_set, if_neg (by omega)]
  · show (m.mem.set m.next o).get id = _
    rw [TM.get_set, if_neg (by omega)]
  · by_cases e : id = m.next
    · subst e; rw [upd_same] at h; cases h; exact .inl (Nat.le_refl _)
    · rw [upd_other e] at h; exact .inr ⟨id, l, h, rfl, fun _ => rfl⟩
  · show OR _ l ((m.mem.set m.next o).get id) _
    rw [TM.get_set]
    by_cases e : id = m.next
    · subst e; rw [upd_same] at h; cases h
      rw [if_pos rfl, ha.heap]
      simp only [Array.getElem?_push_size]
      exact ho _ hle (upd_same _ _ _)
    · rw [upd_other e] at h
      rw [if_neg e, hold _ (hs.blk _ _ h)]
      exact (hs.obj _ _ hlB h).mono hle
  · by_cases ei : i = m.next
    · subst ei; rw [upd_same] at hi; cases hi
      by_cases ej : j = m.next
      · exact ej.symm
      · rw [upd_other ej] at hj
        have := hs.blk _ _ hj
        simp only at he
        omega
    · rw [upd_other ei] at hi
      by_cases ej : j = m.next
      · subst ej; rw [upd_same] at hj; cases hj
        have := hs.blk _ _ hi
        simp only at he
        omega
      · rw [upd_other ej] at hj
        exact hs.inj _ _ _ _ hi hj he
  · rw [ha.heap, Array.size_push]
    by_cases e : id = m.next
    · subst e; rw [upd_same] at h; cases h; exact Nat.lt_succ_self _
    · rw [upd_other e] at h; have := hs.blk _ _ h; omega
  · simp only [alloc] at h
    rw [upd_other (by omega)]
    exact hs.fresh _ (by omega) h2
  · show (m.mem.set m.next o).get id = _
    have h : B ≤ id ∨ m.next + 1 ≤ id := h
    rw [TM.get_set, if_neg (by omega)]
    exact hs.high _ (by omega)
  · show (m.mem.set m.next o).get id = _
    by_cases e : id = m.next
    · subst e; rw [upd_same] at h; cases h
    · rw [upd_other e] at h
      rw [TM.get_set, if_neg e]
      exact hs.dead _ h
  · obtain ⟨t, ht⟩ := hs.glob g hg
    refine ⟨t, ?_⟩
    rw [upd_other (fun e => by subst e; rw [hn] at ht; cases ht)]
    exact ht
  · show (m.mem.set m.next o).get i = _
    by_cases e : i = m.next
    · subst e; rw [upd_same] at h; cases h
    · rw [upd_other e] at h
      rw [TM.get_set, if_neg e]
      exact hs.sat _ _ h

noncomputable def kill (m : M) (id : Nat) : M := ⟨m.next, m.mem.set id .no⟩
theorem sim_kill {G R B : Nat} {ρ : Rho} {m : M} {w : World} {id : Nat} (hs : Sim G B ρ m w) (hR : R ≤ id) (hG : G ≤ R) (hidB : id < B) {lk : Loc} (hid0 : ρ id = some (.live lk)) :
    Ext R B ρ m w (upd ρ id .dead) (kill m id) w ∧ Sim G B (upd ρ id .dead) (kill m id) w := by
  have hid := hid0
  have hlt : id < m.next := by
    rcases Nat.lt_or_ge id m.next with h | h
    · exact h
    · rw [hs.fresh _ h hidB] at hid; cases hid
  have hl : ∀ i l, upd ρ id .dead i = some (.live l) → ρ i = some (.live l) ∧ i ≠ id := by
    intro i l h
    by_cases e : i = id
    · subst e; rw [upd_same] at h; cases h
    · rw [upd_other e] at h; exact ⟨h, e⟩
  refine ⟨⟨upd_le_dead hid0, Nat.le_refl _, fun i h _ => ?_, fun i h => ⟨upd_other (by omega), ?_⟩, fun i h => ⟨upd_other (by omega), fun _ _ => rfl⟩, rfl, rfl, rfl, Nat.le_refl _, fun _ _ _ => rfl, fun i l h => .inr ⟨i, l, (hl i l h).1, rfl, fun _ => rfl⟩⟩,
    ⟨fun i l hiB h => ?_, fun i j l l' hi hj he => hs.inj _ _ _ _ (hl _ _ hi).1 (hl _ _ hj).1 he, fun i l h => hs.blk _ _ (hl _ _ h).1, fun i h h2 => ?_, fun i h => ?_, fun i h => ?_, fun g hg => ?_, fun i a0 h => ?_⟩⟩
  · have : i ≠ id := fun e => by subst e; rw [hid] at h; cases h
    refine ⟨by rw [upd_other this]; exact h, ?_⟩
    show (m.mem.set id .no).get i = _
    rw [TM.get_set, if_neg this]
  · show (m.mem.set id .no).get i = _
    rw [TM.get_set, if_neg (by omega)]
  · obtain ⟨h1, h2⟩ := hl _ _ h
    show OR _ l ((m.mem.set id .no).get i) _
    rw [TM.get_set, if_neg h2]
    exact (hs.obj _ _ hiB h1).mono (upd_le_dead hid0)
  · rw [upd_other (by have : m.next ≤ i := h; omega)]; exact hs.fresh _ h h2
  · show (m.mem.set id .no).get i = _
    have h : B ≤ i ∨ m.next ≤ i := h
    rw [TM.get_set, if_neg (by omega)]
    exact hs.high _ h
  · show (m.mem.set id .no).get i = _
    rw [TM.get_set]
    by_cases e : i = id
    · rw [if_pos e]
    · rw [if_neg e]; rw [upd_other e] at h; exact hs.dead _ h
  · obtain ⟨t, ht⟩ := hs.glob g hg
    exact ⟨t, by rw [upd_other (by omega)]; exact ht⟩
  · show (m.mem.set id .no).get i = _
    rw [TM.get_set]
    by_cases e : i = id
    · rw [if_pos e]
    · rw [if_neg e]; rw [upd_other e] at h; exact hs.sat _ _ h

/-- In place, behind what the memory knows of: the block goes over to a new number. -/
theorem sim_extend {G R B : Nat} {P : Program} {ρ : Rho} {m : M} {w : World} {a a' : Addr} {lo : Loc} {n : Nat} {old new new' : List Value} (hs : Sim G B ρ m w) (hG : G ≤ R) (hR : R ≤ a.block) (hRn : R ≤ m.next) (hB : m.next < B) (hid : ρ a.block = some (.live lo))
    (hb : a'.block = lo.b) (ho : a'.off = a.off + lo.base) (hsp : a'.spot = none) (hcl : ∃ c, m.mem.get a.block = .cells c) (hold : loadN m a.block a.off n = some old) (hnew : VRs ρ new new') (hone : new.all oneV = true) (hin : a'.off + n + new.length ≤ lo.total) :
    ∃ w' ρ', (storeCells ⟨a'.block, a'.off + n, none⟩ new').run P w = .ok () w' ∧ Ext R B ρ m w ρ' (alloc (kill m a.block) (.cells (old ++ new))) w' ∧ Sim G B ρ' (alloc (kill m a.block) (.cells (old ++ new))) w' ∧
      ρ' m.next = some (.live ⟨lo.b, a'.off, lo.total⟩) := by
  obtain ⟨c, hc⟩ := hcl
  obtain ⟨c2, hc2, e1, e2⟩ := loadN_some hold
  have hcc : c2 = c := by rcases hc2 with h | h <;> rw [hc] at h <;> cases h; rfl
  subst hcc
  have hidB : a.block < B := hs.lt (by rw [hc]; simp)
  have hor := hs.obj _ _ hidB hid
  rw [hc] at hor
  obtain ⟨cc, te, l0, hi, r1, r2, r3, r4, r5⟩ := hor
  have hnl := hnew.length
  obtain ⟨q1, q2, q3, q4, q5, cc', q6, q7, q8⟩ := heap_setCells lo.b new' (a'.off + n) w cc te (l0, hi) r1 (by omega)
  have hrun : (storeCells ⟨a'.block, a'.off + n, none⟩ new').run P w = .ok () (w.setCells lo.b (a'.off + n) new') := by
    rw [hb]
    have := run_storeCells_cells (P := P) lo.b (a'.off + n) new' 0 w (fun j hj => ?_) (fun j hj => ?_) (oneV_VRs hnew hone)
    · simpa using this
    · simp only [Nat.add_zero, World.cell?, r1]
      simp
      omega
    · simp only [Nat.add_zero, World.frozen?, r1]
      have := r5
      simp only [Bool.and_eq_false_imp, decide_eq_true_eq, decide_eq_false_iff_not]
      omega
  have hlt : a.block < m.next := by
    rcases Nat.lt_or_ge a.block m.next with h | h
    · exact h
    · rw [hs.fresh _ h hidB] at hid; cases hid
  have hfr := hs.fresh m.next (Nat.le_refl _) hB
  let ρ1 := upd ρ a.block .dead
  let ρ' := upd ρ1 m.next (.live ⟨lo.b, a'.off, lo.total⟩)
  have hle : ρ.le ρ' := Rho.le_trans (upd_le_dead hid) (upd_le_new (by show upd ρ a.block .dead m.next = none; rw [upd_other (by omega)]; exact hfr))
  have hl : ∀ i l, ρ' i = some (.live l) → (i = m.next ∧ l = ⟨lo.b, a'.off, lo.total⟩) ∨ (ρ i = some (.live l) ∧ i ≠ a.block ∧ i ≠ m.next) := by
    intro i l h
    by_cases e : i = m.next
    · subst e
      have : ρ' m.next = some (.live ⟨lo.b, a'.off, lo.total⟩) := upd_same _ _ _
      rw [this] at h; cases h; exact .inl ⟨rfl, rfl⟩
    · have h1 : ρ' i = ρ1 i := upd_other e
      rw [h1] at h
      by_cases e' : i = a.block
      · subst e'
        have : ρ1 a.block = some .dead := upd_same _ _ _
        rw [this] at h; cases h
      · have h2 : ρ1 i = ρ i := upd_other e'
        rw [h2] at h
        exact .inr ⟨h, e', e⟩
  have hget : ∀ i, (alloc (kill m a.block) (.cells (old ++ new))).mem.get i = if i = m.next then .cells (old ++ new) else if i = a.block then .no else m.mem.get i := by
    intro i
    show ((m.mem.set a.block .no).set m.next _).get i = _
    rw [TM.get_set, TM.get_set]
  refine ⟨_, ρ', hrun, ⟨hle, by simp [alloc, kill], fun i h hi' => ?_, fun i h => ?_, fun i h => ⟨?_, fun l hl' => ?_⟩, q2, q3, q4, by omega, fun b hb' hk => ?_, fun i l h => ?_⟩, ⟨fun i l hiB h => ?_, fun i j l l' hi' hj he => ?_, fun i l h => ?_, fun i h h2 => ?_, fun i h => ?_, fun i h => ?_, fun g hg => ?_, fun i a0 h => ?_⟩, upd_same _ _ _⟩
  · have n1 : i ≠ a.block := fun e => by subst e; rw [hid] at h; cases h
    have n2 : i ≠ m.next := by omega
    refine ⟨?_, by rw [hget, if_neg n2, if_neg n1]⟩
    show upd ρ1 m.next _ i = none
    rw [upd_other n2]
    show upd ρ a.block .dead i = none
    rw [upd_other n1]; exact h
  · have n1 : i ≠ a.block := by omega
    have n2 : i ≠ m.next := by omega
    refine ⟨?_, by rw [hget, if_neg n2, if_neg n1]⟩
    show upd ρ1 m.next _ i = _
    rw [upd_other n2]
    show upd ρ a.block .dead i = _
    rw [upd_other n1]
  · show upd ρ1 m.next _ i = _
    rw [upd_other (by omega)]
    show upd ρ a.block .dead i = _
    rw [upd_other (by omega)]
  · refine q5 _ fun e => ?_
    have := hs.inj _ _ _ _ hl' hid e
    omega
  · refine q5 b fun e => ?_
    have := hk a.block lo hid e.symm
    omega
  · rcases hl i l h with ⟨rfl, rfl⟩ | ⟨h1, h2, h3⟩
    · exact .inr ⟨a.block, lo, hid, rfl, fun h => by omega⟩
    · exact .inr ⟨i, l, h1, rfl, fun _ => rfl⟩
  · rw [hget]
    rcases hl i l h with ⟨rfl, rfl⟩ | ⟨h1, h2, h3⟩
    · rw [if_pos rfl]
      have hol : old.length = n := by rw [e1]; simp only [List.length_take, List.length_drop]; simp only [List.length_drop] at e2; omega
      refine ⟨cc', te, l0, hi, q6, by simp only; omega, by simp only [List.length_append]; omega, fun k v hk => ?_, r5⟩
      simp only
      rw [q8]
      by_cases hkn : k < n
      · rw [if_neg (by omega)]
        rw [List.getElem?_append_left (by omega), e1, List.getElem?_take, if_pos hkn, List.getElem?_drop] at hk
        obtain ⟨x, x1, x2⟩ := r4 _ _ hk
        exact ⟨x, by rw [show a'.off + k = lo.base + (a.off + k) by omega]; exact x1, x2.mono hle⟩
      · rw [List.getElem?_append_right (by omega), hol] at hk
        have hkl : k - n < new.length := by
          rcases Nat.lt_or_ge (k - n) new.length with h | h
          · exact h
          · rw [List.getElem?_eq_none h] at hk; cases hk
        obtain ⟨x, x1, x2⟩ := hnew.get hk
        rw [if_pos (by omega), show a'.off + k - (a'.off + n) = k - n by omega]
        exact ⟨x, x1, x2.mono hle⟩
    · rw [if_neg h3, if_neg h2]
      have hne : l.b ≠ lo.b := fun e => h2 (hs.inj _ _ _ _ h1 hid e)
      rw [q5 _ hne]
      exact (hs.obj _ _ hiB h1).mono hle
  · rcases hl i l hi' with ⟨rfl, rfl⟩ | ⟨h1, h2, h3⟩
    · rcases hl j l' hj with ⟨rfl, rfl⟩ | ⟨h4, h5, h6⟩
      · rfl
      · exact absurd (hs.inj _ _ _ _ h4 hid he.symm) h5
    · rcases hl j l' hj with ⟨rfl, rfl⟩ | ⟨h4, h5, h6⟩
      · exact absurd (hs.inj _ _ _ _ h1 hid he) h2
      · exact hs.inj _ _ _ _ h1 h4 he
  · rw [q1]
    rcases hl i l h with ⟨rfl, rfl⟩ | ⟨h1, h2, h3⟩
    · exact hs.blk a.block lo hid
    · exact hs.blk _ _ h1
  · have h' : m.next + 1 ≤ i := h
    show upd ρ1 m.next _ i = none
    rw [upd_other (by omega)]
    show upd ρ a.block .dead i = none
    rw [upd_other (by omega)]
    exact hs.fresh _ (by omega) h2
  · have h : B ≤ i ∨ m.next + 1 ≤ i := h
    have hln := hs.ltn hidB hid
    rw [hget, if_neg (by omega), if_neg (by omega)]
    exact hs.high _ (by omega)
  · rw [hget]
    by_cases n2 : i = m.next
    · subst n2
      have : ρ' m.next = some (.live ⟨lo.b, a'.off, lo.total⟩) := upd_same _ _ _
      rw [this] at h; cases h
    · rw [if_neg n2]
      by_cases n1 : i = a.block
      · rw [if_pos n1]
      · rw [if_neg n1]
        have h1 : ρ' i = ρ1 i := upd_other n2
        have h2 : ρ1 i = ρ i := upd_other n1
        rw [h1, h2] at h
        exact hs.dead _ h
  · obtain ⟨t, ht⟩ := hs.glob g hg
    refine ⟨t, ?_⟩
    show upd ρ1 m.next _ g = _
    rw [upd_other (by omega)]
    show upd ρ a.block .dead g = _
    rw [upd_other (by omega)]
    exact ht
  · rw [hget]
    by_cases n2 : i = m.next
    · subst n2
      have : ρ' m.next = some (.live ⟨lo.b, a'.off, lo.total⟩) := upd_same _ _ _
      rw [this] at h; cases h
    · rw [if_neg n2]
      by_cases n1 : i = a.block
      · rw [if_pos n1]
      · rw [if_neg n1]
        have h1 : ρ' i = ρ1 i := upd_other n2
        have h2 : ρ1 i = ρ i := upd_other n1
        rw [h1, h2] at h
        exact hs.sat _ _ h
end Go.HM
