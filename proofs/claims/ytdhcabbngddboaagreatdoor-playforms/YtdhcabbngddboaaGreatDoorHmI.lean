import Derived.Test.YtdhcabbngddboaaGreatDoorHmH
set_option linter.unusedVariables false
set_option linter.unusedSimpArgs false
namespace Go.HM

/-! ### a row of cells written in the world -/
theorem heap_setCells (b : Nat) : ∀ (vs : List Value) (o : Nat) (w : World) (c : Array Value) (e : TypeId) (fz : Nat × Nat), w.heap[b]? = some (.cells c e fz) → o + vs.length ≤ c.size →
    (w.setCells b o vs).heap.size = w.heap.size ∧ (w.setCells b o vs).os = w.os ∧ (w.setCells b o vs).tape = w.tape ∧ (w.setCells b o vs).output = w.output ∧
    (∀ k : Nat, k ≠ b → (w.setCells b o vs).heap[k]? = w.heap[k]?) ∧
    ∃ c' : Array Value, (w.setCells b o vs).heap[b]? = some (.cells c' e fz) ∧ c'.size = c.size ∧ ∀ k : Nat, c'[k]? = if o ≤ k ∧ k < o + vs.length then vs[k - o]? else c[k]?
  | [], o, w, c, e, fz, h, _ => ⟨rfl, rfl, rfl, rfl, fun _ _ => rfl, c, h, rfl, fun k => by rw [if_neg (by simp)]⟩
  | v :: r, o, w, c, e, fz, h, hle => by
    simp only [List.length_cons] at hle
    have h1 : (w.setCell ⟨b, o, none⟩ v).heap[b]? = some (.cells (c.setIfInBounds o v) e fz) := by
      simp only [World.setCell, Array.getElem?_modify, if_true, h]
      rfl
    obtain ⟨q1, q2, q3, q4, q5, c', q6, q7, q8⟩ := heap_setCells b r (o + 1) (w.setCell ⟨b, o, none⟩ v) (c.setIfInBounds o v) e fz h1 (by simp; omega)
    refine ⟨by simp only [World.setCells]; rw [q1]; simp [World.setCell], q2, q3, q4, fun k hk => ?_, c', q6, by rw [q7]; simp, fun k => ?_⟩
    · simp only [World.setCells]; rw [q5 k hk]
      simp only [World.setCell, Array.getElem?_modify]
      rw [if_neg (by simpa using fun e => hk e.symm)]
    · rw [q8 k]
      by_cases hk : o + 1 ≤ k ∧ k < o + 1 + r.length
      · rw [if_pos hk, if_pos (by simp; omega), show k - o = (k - (o + 1)) + 1 by omega]; simp
      · rw [if_neg hk]
        by_cases hk0 : k = o
        · subst hk0
          rw [if_pos (by simp)]
          simp
          rw [Array.getElem?_setIfInBounds_self_of_lt (by omega)]
        · rw [if_neg (by simp; omega), Array.getElem?_setIfInBounds_ne (by omega)]

def oneV : Value → Bool
  | .agg _ | .tuple _ => false
  | _ => true
theorem oneV_VR {ρ : Rho} {v v' : Value} (h : VR ρ v v') : v'.oneCell' = oneV v := by cases h <;> rfl
theorem oneV_VRs {ρ : Rho} : ∀ {l l' : List Value}, VRs ρ l l' → l.all oneV = true → ∀ v ∈ l', v.oneCell' = true := by
  intro l
  induction l with
  | nil => intro l' h _; cases h; simp
  | cons x l ih =>
    intro l' h ha
    cases h with
    | cons h1 h2 =>
      simp only [List.all_cons, Bool.and_eq_true] at ha
      intro v hv
      simp only [List.mem_cons] at hv
      rcases hv with rfl | hv
      · rw [oneV_VR h1]; exact ha.1
      · exact ih h2 ha.2 v hv

noncomputable def storeM (R : Nat) (m : M) (b off : Nat) (vs : List Value) : Option M :=
  match m.mem.get b with
  | .cells c => bif Nat.ble R b && vs.all oneV then (match setR c off vs with | some c' => some ⟨m.next, m.mem.set b (.cells c')⟩ | none => none) else none
  | _ => none

theorem storeM_next {R : Nat} {m m' : M} {b off : Nat} {vs : List Value} (h : storeM R m b off vs = some m') : m'.next = m.next := by
  unfold storeM at h
  split at h
  · rename_i c hc
    cases hb : (Nat.ble R b && vs.all oneV) with
    | false => rw [hb] at h; simp at h
    | true =>
      rw [hb] at h
      simp only [cond_true] at h
      split at h
      · cases h; rfl
      · cases h
  · cases h

/-- what a store of related cells does: the general form, with any cells that come to stand there -/
theorem put_rel {G R B : Nat} {P : Program} {ρ : Rho} {m : M} {w : World} {id : Nat} {lo : Loc} {c c' : List Value} {off' : Nat} {vs' : List Value} (hs : Sim G B ρ m w) (hid : ρ id = some (.live lo)) (hR : R ≤ id)
    (hc : m.mem.get id = .cells c) (hone : ∀ v ∈ vs', v.oneCell' = true) (hin : off' + vs'.length ≤ lo.total)
    (hc' : ∀ (cc cc' : Array Value), cc.size = lo.total → (∀ k v, c[k]? = some v → ∃ v', cc[lo.base + k]? = some v' ∧ VR ρ v v') → cc'.size = cc.size →
      (∀ k : Nat, cc'[k]? = if off' ≤ k ∧ k < off' + vs'.length then vs'[k - off']? else cc[k]?) → lo.base + c'.length ≤ lo.total ∧ ∀ k v, c'[k]? = some v → ∃ v', cc'[lo.base + k]? = some v' ∧ VR ρ v v') :
    (storeCells ⟨lo.b, off', none⟩ vs').run P w = .ok () (w.setCells lo.b off' vs') ∧ Ext R B ρ m w ρ ⟨m.next, m.mem.set id (.cells c')⟩ (w.setCells lo.b off' vs') ∧ Sim G B ρ ⟨m.next, m.mem.set id (.cells c')⟩ (w.setCells lo.b off' vs') := by
  have hidB : id < B := hs.lt (by rw [hc]; simp)
  have ho := hs.obj _ _ hidB hid
  rw [hc] at ho
  obtain ⟨cc, e, l0, hi, r1, r2, r3, r4, r5⟩ := ho
  obtain ⟨q1, q2, q3, q4, q5, cc', q6, q7, q8⟩ := heap_setCells lo.b vs' off' w cc e (l0, hi) r1 (by omega)
  obtain ⟨hb1, hb2⟩ := hc' cc cc' r2 r4 q7 q8
  have hrun : (storeCells ⟨lo.b, off', none⟩ vs').run P w = .ok () (w.setCells lo.b off' vs') := by
    have := run_storeCells_cells (P := P) lo.b off' vs' 0 w (fun j hj => ?_) (fun j hj => ?_) hone
    · simpa using this
    · simp only [Nat.add_zero, World.cell?, r1]
      simp
      omega
    · simp only [Nat.add_zero, World.frozen?, r1]
      have := r5
      simp only [Bool.and_eq_false_imp, decide_eq_true_eq, decide_eq_false_iff_not]
      omega
  refine ⟨hrun, ⟨ρ.le_refl, Nat.le_refl _, fun i hn hlt => ⟨hn, ?_⟩, fun i hi => ⟨rfl, ?_⟩, fun i hi => ⟨rfl, fun l hl => ?_⟩, q2, q3, q4, by omega, fun b hb hk => ?_, fun i l h => .inr ⟨i, l, h, rfl, fun _ => rfl⟩⟩, ⟨fun i l hiB h => ?_, hs.inj, fun i l h => by rw [q1]; exact hs.blk i l h, hs.fresh, fun i h => ?_, fun i h => ?_, hs.glob, fun i a h => ?_⟩⟩
  · show (m.mem.set id _).get i = _
    rw [TM.get_set, if_neg (fun e => by subst e; rw [hid] at hn; cases hn)]
  · show (m.mem.set id _).get i = _
    rw [TM.get_set, if_neg (by omega)]
  · refine q5 _ fun e => ?_
    have := hs.inj _ _ _ _ hl hid e
    omega
  · refine q5 b fun e => ?_
    have := hk id lo hid e.symm
    omega
  · show OR ρ l ((m.mem.set id _).get i) _
    rw [TM.get_set]
    by_cases hi' : i = id
    · subst hi'
      rw [hid] at h; cases h
      rw [if_pos rfl]
      exact ⟨cc', e, l0, hi, q6, by omega, hb1, hb2, r5⟩
    · rw [if_neg hi']
      have hne : l.b ≠ lo.b := fun e => hi' (hs.inj _ _ _ _ h hid e)
      rw [q5 _ hne]
      exact hs.obj _ _ hiB h
  · show (m.mem.set id _).get i = _
    have hln := hs.ltn hidB hid
    have h : B ≤ i ∨ m.next ≤ i := h
    rw [TM.get_set, if_neg (by omega)]
    exact hs.high i h
  · show (m.mem.set id _).get i = _
    rw [TM.get_set, if_neg (fun e => by subst e; rw [hid] at h; cases h)]
    exact hs.dead i h
  · show (m.mem.set id _).get i = _
    rw [TM.get_set, if_neg (fun e => by subst e; rw [hid] at h; cases h)]
    exact hs.sat i a h

theorem store_rel {G R B : Nat} {P : Program} {ρ : Rho} {m m' : M} {w : World} {a a' : Addr} {vs vs' : List Value} (hs : Sim G B ρ m w) (ha : AR ρ a a') (hv : VRs ρ vs vs') (h : storeM R m a.block a.off vs = some m') :
    ∃ w', (storeCells a' vs').run P w = .ok () w' ∧ Ext R B ρ m w ρ m' w' ∧ Sim G B ρ m' w' := by
  unfold storeM at h
  split at h
  · rename_i c hc
    cases hb : (Nat.ble R a.block && vs.all oneV) with
    | false => rw [hb] at h; simp at h
    | true =>
      rw [hb] at h
      simp only [cond_true] at h
      simp only [Bool.and_eq_true] at hb
      have hR : R ≤ a.block := Nat.le_of_ble_eq_true hb.1
      split at h
      · rename_i c' hc'
        cases h
        obtain ⟨p1, p2, st, p3, p4⟩ := ha
        cases st with
        | dead => rw [hs.dead _ p3] at hc; cases hc
        | «at» _ => rw [hs.sat _ _ p3] at hc; cases hc
        | live lo =>
          obtain ⟨q1, q2⟩ := p4 lo rfl
          obtain ⟨s1, s2, s3⟩ := setR_spec _ _ _ _ hc'
          have hl := hv.length
          have ho := hs.obj _ _ (hs.lt (by rw [hc]; simp)) p3
          rw [hc] at ho
          obtain ⟨cc0, e0, l0, hi0, t1, t2, t3, t4, t5⟩ := ho
          obtain ⟨b', o', sp⟩ := a'
          simp only at q1 q2 p2
          subst q1; subst q2; subst p2
          refine ⟨_, put_rel (R := R) hs p3 hR hc (oneV_VRs hv hb.2) (by omega) fun cc cc' h1 h2 h3 h4 => ?_⟩
          refine ⟨by omega, fun k v hk => ?_⟩
          rw [s3 k] at hk
          by_cases hkk : a.off ≤ k ∧ k < a.off + vs.length
          · rw [if_pos hkk] at hk
            obtain ⟨x, x1, x2⟩ := hv.get hk
            refine ⟨x, ?_, x2⟩
            rw [h4, if_pos (by omega), show lo.base + k - (a.off + lo.base) = k - a.off by omega]
            exact x1
          · rw [if_neg hkk] at hk
            obtain ⟨x, x1, x2⟩ := h2 k v hk
            refine ⟨x, ?_, x2⟩
            rw [h4, if_neg (by omega)]
            exact x1
      · cases h
  · cases h

section
variable {P : Program} {o : Oper}
noncomputable def eStore (R : Nat) : EF
  | [.pointer (some a), v], m => match storeM R m a.block a.off (cellsOfV v) with | some m' => some (undefV, m') | none => none
  | _, _ => none
theorem VRundef (ρ : Rho) : VR ρ undefV undef := .tuple .nil
theorem store_ok {R : Nat} {t : TypeId} {x y : Operand} {ti : TypeInfo} (ho : o.op = .store t x y) (ht : P.info? t = some ti) (hsz : True) : EffOK R P o (fun l m => match l with | [a, v] => (bif Nat.beq (cellsOfV v).length ti.size then eStore R [a, v] m else none) | _ => none) := by
  refine ⟨fun l m v m' h => ?_, ?_⟩
  · simp only at h
    split at h
    · rename_i a v'
      cases hb : Nat.beq (cellsOfV v').length ti.size with
      | false => rw [hb] at h; simp at h
      | true =>
        rw [hb] at h
        simp only [cond_true] at h
        unfold eStore at h
        split at h
        · split at h
          · rename_i m1 hm1; cases h; exact Nat.le_of_eq (storeM_next hm1).symm
          · cases h
        · cases h
    · cases h
  intro G B ρ m w e l v m' hGR hs hB hl hv
  have hl' : VRs ρ l [e x, e y] := by simpa [Op.operands, ho] using hl
  obtain ⟨a, b, rfl, hx, hy⟩ := hl'.two
  simp only at hv
  cases hb : Nat.beq (cellsOfV b).length ti.size with
  | false => rw [hb] at hv; simp at hv
  | true =>
    rw [hb] at hv
    simp only [cond_true] at hv
    have hlen := Nat.eq_of_beq_eq_true hb
    unfold eStore at hv
    split at hv
    · rename_i ad vv heq
      simp only [List.cons.injEq, and_true] at heq
      obtain ⟨rfl, rfl⟩ := heq
      split at hv
      · rename_i m1 hm1
        cases hv
        generalize hxe : e x = ex at hx
        cases hx with
        | ptr hx =>
          rename_i a'
          obtain ⟨w', h1, h2, h3⟩ := store_rel (P := P) hs hx hy.cells hm1
          refine ⟨undef, w', ρ, .inr ⟨?_, rfl⟩, VRundef ρ, h2, h3⟩
          have hcl := hy.cells.length
          simp only [Array.length_toList] at hcl
          unfold execOp; rw [ho]
          have hne : ¬ ((e y).cells.size ≠ ti.size) := by omega
          simp only [Instr.storeAt, Sem.run_bind, hxe, Instr.sureAddr, Sem.run_pure, Result.andThen_ok, storeVar, run_szOf ht, hne, if_false, h1]
      · cases hv
    · cases hv
end
end Go.HM
