import Derived.Test.YtdhcabbngddboaaGreatDoorHmF
set_option linter.unusedVariables false
set_option linter.unusedSimpArgs false
namespace Go.HM

def ReadOK (P : Program) (o : Oper) (f : RD) : Prop :=
  ∀ (G B : Nat) (ρ : Rho) (m : M) (w : World) (e : Operand → Value) (l : List Value) (v : Value), Sim G B ρ m w → VRs ρ l (o.op.operands.toList.map e) → f l m = some v →
    ∃ v', (execOp e o).run P w = .ok (.value v') w ∧ VR ρ v v'

/-- the world with one object more -/
structure AllocW (w : World) (c : Obj) (w' : World) : Prop where
  heap : w'.heap = w.heap.push c
  os : w'.os = w.os
  tape : w'.tape = w.tape
  output : w'.output = w.output

def AllocOK (P : Program) (o : Oper) (f : AL) : Prop :=
  ∀ (ρ : Rho) (w : World) (e : Operand → Value) (l : List Value) (ho : HO) (mk : Nat → Value), VRs ρ l (o.op.operands.toList.map e) → f l = some (ho, mk) →
    ∃ c w' v' tot, (execOp e o).run P w = .ok (.value v') w' ∧ AllocW w c w' ∧
      ∀ id ρ', ρ.le ρ' → ρ' id = some (.live ⟨w.heap.size, 0, tot⟩) → OR ρ' ⟨w.heap.size, 0, tot⟩ ho (some c) ∧ VR ρ' (mk id) v'

def EffOK (R : Nat) (P : Program) (o : Oper) (f : EF) : Prop :=
  (∀ l m v m', f l m = some (v, m') → m.next ≤ m'.next) ∧
  ∀ (G B : Nat) (ρ : Rho) (m : M) (w : World) (e : Operand → Value) (l : List Value) (v : Value) (m' : M), G ≤ R → Sim G B ρ m w → m'.next ≤ B → VRs ρ l (o.op.operands.toList.map e) → f l m = some (v, m') →
    ∃ v' w' ρ', ((execOp e o).run P w = .ok (.value v') w' ∨ ((execOp e o).run P w = .ok .skip w' ∧ v' = undef)) ∧ VR ρ' v v' ∧ Ext R B ρ m w ρ' m' w' ∧ Sim G B ρ' m' w'

/-! ### reading -/
theorem takeN_spec : ∀ (n : Nat) (l r : List Value), takeN n l = some r → r = l.take n ∧ n ≤ l.length := by
  intro n
  induction n with
  | zero => intro l r h; rw [takeN_zero] at h; cases h; simp
  | succ n ih =>
    intro l r h
    cases l with
    | nil => rw [takeN_nil] at h; cases h
    | cons c l =>
      rw [takeN_cons] at h
      split at h
      · rename_i r' hr
        cases h
        obtain ⟨h1, h2⟩ := ih l r' hr
        simp [h1]; omega
      · cases h

theorem OR.rd {ρ : Rho} {lo : Loc} {o : HO} {h : Option Obj} {c : List Value} (ho : OR ρ lo o h) (hc : o = .cells c ∨ o = .ext c) :
    ∃ cc e fz, h = some (.cells cc e fz) ∧ cc.size = lo.total ∧ lo.base + c.length ≤ lo.total ∧ ∀ (k : Nat) (v : Value), c[k]? = some v → ∃ v' : Value, cc[lo.base + k]? = some v' ∧ VR ρ v v' := by
  rcases hc with rfl | rfl
  · obtain ⟨cc, e, l0, hi, r1, r2, r3, r4, r5⟩ := ho
    exact ⟨cc, e, (l0, hi), r1, r2, r3, r4⟩
  · exact ho
theorem loadN_some {m : M} {b off n : Nat} {l : List Value} (h : loadN m b off n = some l) : ∃ c, (m.mem.get b = .cells c ∨ m.mem.get b = .ext c) ∧ l = (c.drop off).take n ∧ n ≤ (c.drop off).length := by
  unfold loadN at h
  split at h
  · rename_i c hc; rw [dropN_eq] at h; obtain ⟨h1, h2⟩ := takeN_spec _ _ _ h; exact ⟨c, .inl hc, h1, h2⟩
  · rename_i c hc; rw [dropN_eq] at h; obtain ⟨h1, h2⟩ := takeN_spec _ _ _ h; exact ⟨c, .inr hc, h1, h2⟩
  · cases h
theorem load_rel {G B : Nat} {ρ : Rho} {m : M} {w : World} {a a' : Addr} {n : Nat} {l : List Value} (hs : Sim G B ρ m w) (ha : AR ρ a a') (h : loadN m a.block a.off n = some l) :
    ∃ l' : List Value, (∀ (j : Nat) (v : Value), l'[j]? = some v → w.cell? (a'.add j) = some v) ∧ l'.length = n ∧ VRs ρ l l' := by
  obtain ⟨c, hc, h1, h2⟩ := loadN_some h
  have hno : m.mem.get a.block ≠ .no := by rcases hc with hc | hc <;> rw [hc] <;> simp
  obtain ⟨p1, p2, st, p3, p4⟩ := ha
  cases st with
  | dead => exact absurd (hs.dead _ p3) hno
  | «at» _ => exact absurd (hs.sat _ _ p3) hno
  | live lo =>
    obtain ⟨q1, q2⟩ := p4 lo rfl
    obtain ⟨cc, e, fz, r1, r2, r3, r4⟩ := (hs.obj _ _ (hs.lt hno) p3).rd hc
    simp only [List.length_drop] at h2
    refine ⟨(cc.toList.drop a'.off).take n, ?_, ?_, ?_⟩
    · intro j v hj
      rw [add_off p2]
      rw [List.getElem?_take] at hj
      split at hj
      · rw [List.getElem?_drop, Array.getElem?_toList] at hj
        unfold World.cell?
        simp only [q1, r1]
        simpa using hj
      · cases hj
    · simp only [List.length_take, List.length_drop, Array.length_toList]; omega
    · subst h1
      refine VRs.of_get (by simp only [List.length_take, List.length_drop, Array.length_toList]; omega) fun k v v' hk hk' => ?_
      rw [List.getElem?_take] at hk hk'
      split at hk
      · rename_i hlt
        rw [if_pos hlt] at hk'
        rw [List.getElem?_drop] at hk hk'
        obtain ⟨x, x1, x2⟩ := r4 _ _ hk
        rw [Array.getElem?_toList, show a'.off + k = lo.base + (a.off + k) by omega, x1] at hk'
        cases hk'; exact x2
      · cases hk

section
variable {P : Program} {o : Oper}
noncomputable def rLoad1 : RD | [a], m => load1 m a | _, _ => none
noncomputable def rLoadN (n : Nat) : RD | [a], m => loadAgg n m a | _, _ => none
theorem load1_rel {G B : Nat} {ρ : Rho} {m : M} {w : World} {a a' v : Value} (hs : Sim G B ρ m w) (ha : VR ρ a a') (h : load1 m a = some v) :
    ∃ b v', a' = .pointer (some b) ∧ w.cell? b = some v' ∧ VR ρ v v' := by
  unfold load1 at h
  split at h
  · split at h
    · rename_i hl
      cases h
      cases ha with
      | ptr ha =>
        rename_i b
        obtain ⟨l', h1, h2, h3⟩ := load_rel hs ha hl
        cases h3 with
        | cons h3 h4 =>
          cases h4
          rename_i v'
          refine ⟨b, v', rfl, ?_, h3⟩
          have := h1 0 v' rfl
          simpa [Addr.add] using this
    · cases h
  · cases h
theorem loadAgg_rel {G B : Nat} {ρ : Rho} {m : M} {w : World} {n : Nat} {a a' v : Value} (hs : Sim G B ρ m w) (ha : VR ρ a a') (h : loadAgg n m a = some v) :
    ∃ b l', a' = .pointer (some b) ∧ (∀ (j : Nat) (v : Value), l'[j]? = some v → w.cell? (b.add j) = some v) ∧ l'.length = n ∧ VR ρ v (.agg ⟨l'⟩) := by
  unfold loadAgg at h
  split at h
  · split at h
    · rename_i hl
      cases h
      cases ha with
      | ptr ha =>
        rename_i b
        obtain ⟨l', h1, h2, h3⟩ := load_rel hs ha hl
        exact ⟨b, l', rfl, h1, h2, .agg h3⟩
    · cases h
  · cases h
theorem run_loadVar1 {w : World} {t : TypeId} {d : TypeDesc} (hd : P.underlying t = some d) (ha : isAggB d = false) {b : Addr} {v : Value} (h : w.cell? b = some v) :
    (loadVar t b).run P w = .ok v w := by
  simp [loadVar, run_isAggD hd, ha, h]
theorem run_loadVarN {w : World} {t : TypeId} {d : TypeDesc} {ti : TypeInfo} (hd : P.underlying t = some d) (ha : isAggB d = true) (ht : P.info? t = some ti) {b : Addr} {l : List Value}
    (h : ∀ (j : Nat) (v : Value), l[j]? = some v → w.cell? (b.add j) = some v) (hl : l.length = ti.size) : (loadVar t b).run P w = .ok (.agg ⟨l⟩) w := by
  have := run_loadCells_list (P := P) w b l h
  rw [hl] at this
  simp [loadVar, run_isAggD hd, ha, run_szOf ht, this]
theorem load1_ok {x : Operand} {t : TypeId} {d : TypeDesc} (ho : o.op = .load t x) (hd : P.underlying t = some d) (ha : isAggB d = false) : ReadOK P o rLoad1 := by
  intro G B ρ m w e l v hs hl hv
  have hl' : VRs ρ l [e x] := by simpa [Op.operands, ho] using hl
  obtain ⟨a, rfl, hx⟩ := hl'.one
  obtain ⟨b, v', h1, h2, h3⟩ := load1_rel hs hx hv
  refine ⟨v', ?_, h3⟩
  unfold execOp; rw [ho]
  simp [Instr.loadAt, h1, Instr.sureAddr, run_loadVar1 hd ha h2]
theorem loadN_ok {x : Operand} {t : TypeId} {d : TypeDesc} {ti : TypeInfo} (ho : o.op = .load t x) (hd : P.underlying t = some d) (ha : isAggB d = true) (ht : P.info? t = some ti) : ReadOK P o (rLoadN ti.size) := by
  intro G B ρ m w e l v hs hl hv
  have hl' : VRs ρ l [e x] := by simpa [Op.operands, ho] using hl
  obtain ⟨a, rfl, hx⟩ := hl'.one
  obtain ⟨b, l', h1, h2, h3, h4⟩ := loadAgg_rel hs hx hv
  refine ⟨.agg ⟨l'⟩, ?_, h4⟩
  unfold execOp; rw [ho]
  simp [Instr.loadAt, h1, Instr.sureAddr, run_loadVarN hd ha ht h2 h3]

/-! bytes as a text -/
def bytesOf : List Value → Option (List UInt8)
  | [] => some []
  | .int .u8 (.ofNat n) :: r => match bytesOf r with | some l => some (UInt8.ofNat n :: l) | none => none
  | _ => none
noncomputable def rStr : RD
  | [.slice none _ _], _ => some (.string ⟨#[]⟩)
  | [.slice (some a) n _], m => match loadN m a.block a.off n with | some l => (match bytesOf l with | some b => some (.string ⟨⟨b⟩⟩) | none => none) | none => none
  | _, _ => none
theorem bytesOf_rel {ρ : Rho} : ∀ {l l' : List Value} {b : List UInt8}, VRs ρ l l' → bytesOf l = some b → l = l' ∧ ∀ v ∈ l, ∃ n : Nat, v = .int .u8 n := by
  intro l
  induction l with
  | nil => intro l' b h hb; cases h; exact ⟨rfl, by simp⟩
  | cons v l ih =>
    intro l' b h hb
    cases h with
    | cons h1 h2 =>
      unfold bytesOf at hb
      split at hb
      · rename_i heq; cases heq
      · rename_i n r heq
        simp only [List.cons.injEq] at heq
        obtain ⟨rfl, rfl⟩ := heq
        split at hb
        · rename_i bl hbl
          cases hb
          obtain ⟨e1, e2⟩ := ih h2 hbl
          cases h1
          refine ⟨by rw [e1], fun v hv => ?_⟩
          simp only [List.mem_cons] at hv
          rcases hv with rfl | hv
          · exact ⟨n, rfl⟩
          · exact e2 v hv
        · cases hb
      · cases hb
/-- the model's own reading of bytes -/
theorem run_bytes {w : World} {b : Addr} : ∀ (l : List Value) (bs : List UInt8) (acc : ByteArray), bytesOf l = some bs →
    (forIn l acc (fun (c : Value) (s : ByteArray) => (match c with
      | .int .u8 n => pure (ForInStep.yield (s.push (UInt8.ofNat n.toNat)))
      | _ => do
        stuck "bytesToString: byte expected"
        pure (ForInStep.yield s) : Sem (ForInStep ByteArray)))).run P w = .ok ⟨⟨acc.data.toList ++ bs⟩⟩ w := by
  intro l
  induction l with
  | nil => intro bs acc h; simp only [bytesOf] at h; cases h; simp
  | cons v l ih =>
    intro bs acc h
    unfold bytesOf at h
    split at h
    · rename_i heq; cases heq
    · rename_i n r heq
      simp only [List.cons.injEq] at heq
      obtain ⟨rfl, rfl⟩ := heq
      split at h
      · rename_i bl hbl
        cases h
        have e1 : (Int.ofNat n).toNat = n := rfl
        simp only [List.forIn_cons, Sem.run_bind, Sem.run_pure, Result.andThen_ok, e1]
        rw [ih bl _ hbl]
        simp [ByteArray.push]
      · cases h
    · cases h
theorem str_ok {x : Operand} {s t el : TypeId} (ho : o.op = .convert s t x) (hs : P.underlying s = some (.slice el)) (he : P.underlying el = some (.int .u8)) (ht : P.underlying t = some .string) : ReadOK P o rStr := by
  intro G B ρ m w e l v hs' hl hv
  have hl' : VRs ρ l [e x] := by simpa [Op.operands, ho] using hl
  obtain ⟨a, rfl, hx⟩ := hl'.one
  have hrun : ∀ u, (Conv.bytesToString (e x)).run P w = .ok u w → (∃ a n c, e x = .slice a n c) → (execOp e o).run P w = .ok (.value u) w := by
    intro u hu ⟨a, n, c, hxx⟩
    unfold execOp; rw [ho]
    rw [hxx] at hu
    simp [convert, run_und hs, run_und ht, run_und he, hxx, hu]
  generalize hex : e x = ex at hx hrun
  unfold rStr at hv
  split at hv
  · rename_i n c heq
    simp only [List.cons.injEq, and_true] at heq
    subst heq
    cases hv
    cases hx
    exact ⟨_, hrun _ rfl ⟨_, _, _, rfl⟩, .string _⟩
  · rename_i a n c heq
    simp only [List.cons.injEq, and_true] at heq
    subst heq
    split at hv
    · rename_i bl hbl
      split at hv
      · rename_i bs hbs
        cases hv
        cases hx with
        | slice _ h =>
          rename_i a' c'
          obtain ⟨h1, h2, ⟨h3, h4⟩, h5, st, h6, h7⟩ := h
          refine ⟨.string ⟨⟨bs⟩⟩, hrun _ ?_ ⟨_, _, _, rfl⟩, .string _⟩
          by_cases hn : n = 0
          · subst hn
            have hb0 : bl = [] := by
              obtain ⟨c0, _, hl0, _⟩ := loadN_some hbl
              rw [hl0]; rfl
            subst hb0
            simp only [bytesOf] at hbs; cases hbs
            have := run_loadCells_list (P := P) w a' [] (by simp)
            simp only [List.length_nil] at this
            simp [Conv.bytesToString, this]
            rfl
          · have har : AR ρ a a' := ⟨h1, h2, st, h6, fun l e => let ⟨p, q, _⟩ := h7 l e (by omega); ⟨p, q⟩⟩
            obtain ⟨l', q1, q2, q3⟩ := load_rel hs' har hbl
            obtain ⟨q4, _⟩ := bytesOf_rel q3 hbs
            subst q4
            have hlc := run_loadCells_list (P := P) w a' bl q1
            rw [q2] at hlc
            have hr := run_bytes (P := P) (w := w) (b := a') bl bs ByteArray.empty hbs
            simp only [Conv.bytesToString, Sem.run_bind, hlc, Result.andThen_ok, List.forIn_toArray]
            exact (congrArg (fun r => Result.andThen r fun a w' => Sem.run P (pure (Value.string a)) w') hr).trans rfl
      · cases hv
    · cases hv
  · cases hv
end
end Go.HM
