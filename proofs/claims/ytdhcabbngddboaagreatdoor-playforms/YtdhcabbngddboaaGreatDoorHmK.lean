import Derived.Test.YtdhcabbngddboaaGreatDoorHmJ
set_option linter.unusedVariables false
set_option linter.unusedSimpArgs false
namespace Go.HM

/-! ### append -/
noncomputable def srcN (es : Nat) (m : M) : Value → Option (Nat × List Value)
  | .slice none _ _ => some (0, [])
  | .slice (some a) n _ => match loadN m a.block a.off (Nat.mul n es) with | some l => some (n, l) | none => none
  | .string b => bif Nat.beq es 1 then some (b.size, b.data.toList.map fun c => Value.int .u8 (.ofNat c.toNat)) else none
  | _ => none
def isCl : HO → Bool | .cells _ => true | _ => false
theorem isCl_some {o : HO} (h : isCl o = true) : ∃ c, o = .cells c := by cases o <;> first | exact ⟨_, rfl⟩ | cases h
noncomputable def appTo (R es : Nat) (base : Option Addr) (len cap n : Nat) (new : List Value) (m : M) : Option (Value × M) :=
  bif Nat.ble (Nat.add len n) (cap / 512) then
    match base with
    | none => bif Nat.beq (Nat.add len n) 0 then some (.slice none 0 cap, m) else none
    | some a => bif Nat.beq n 0 then some (.slice (some a) len cap, m) else
      (match storeM R m a.block (Nat.add a.off (Nat.mul len es)) new with | some m' => some (.slice (some a) (Nat.add len n) cap, m') | none => none)
  else bif Nat.ble (Nat.add len n) 1000000 && Nat.ble R m.next then
    match base with
    | none => bif Nat.beq len 0 then some (.slice (some ⟨m.next, 0, none⟩) n (capOf n 0 es), alloc m (.cells new)) else none
    | some a => match loadN m a.block a.off (Nat.mul len es) with
      | none => none
      | some old =>
        bif Nat.beq (cap / 256 % 2) 1 then some (.slice (some ⟨m.next, 0, none⟩) (Nat.add len n) (capOf (Nat.add len n) 0 es), alloc m (.cells (old ++ new)))
        else bif Nat.ble R a.block && (Nat.beq (cap % 256) es && (new.all oneV && isCl (m.mem.get a.block))) then some (.slice (some ⟨m.next, 0, none⟩) (Nat.add len n) (capOf (Nat.add len n) 0 es), alloc (kill m a.block) (.cells (old ++ new)))
        else none
  else none
noncomputable def eApp (R es : Nat) : EF
  | [.slice base len cap, src], m => match srcN es m src with
    | none => none
    | some (n, new) => appTo R es base len cap n new m
  | _, _ => none
/-- append of so many zeros -/
noncomputable def eAppZ (R es : Nat) (zl : List Value) : EF
  | [.slice base len cap, .int _ (.ofNat n)], m => bif Nat.ble n 1000000 then appTo R es base len cap n (zerosOf zl (Nat.mul n es)) m else none
  | _, _ => none

theorem growBy_le (need : Nat) : ∀ (k c : Nat), Builtin.growBy need k c ≤ max c (2 * need + 192) := by
  intro k
  induction k with
  | zero => intro c; simp [Builtin.growBy]; omega
  | succ k ih =>
    intro c
    simp only [Builtin.growBy]
    split
    · omega
    · have := ih (c + (c + 768) / 4)
      omega
theorem nextcap_le {need old : Nat} (h : old < need) : Builtin.nextslicecap need old ≤ 2 * need + 192 := by
  unfold Builtin.nextslicecap
  split
  · omega
  · split
    · omega
    · have := growBy_le need 4 old; omega

section
variable {P : Program} {o : Oper}

/-- what stands in the model behind the arguments of append -/
def appTail (app : Sem (Array Value)) (elem : TypeId) (size : Nat) (base : Option Addr) (sLen sCap n : Nat) (x : Value) (zeros : Bool) (s : Value) : Sem Value := do
  let need := sLen + n
  if need ≤ sCap then
    let new ← app
    if let some a := base then storeCells (a.add (sLen * size)) new.toList
    pure (.slice base need sCap)
  else
    if (need : Int) > IntKind.i64.max ∧ (zeros ∨ (← typeInfo elem).bytes = 0) then runtimePanic (.error "growslice: len out of range")
    if Builtin.nextslicecap need sCap * (← typeInfo elem).bytes > 2 ^ 48 then (if zeros then runtimePanic (.error "growslice: len out of range") else do
      if !(← Builtin.mayShare size sLen n base x) then mark .noRoom
      unsupported (.resourceLimit "append: a slice or a string whose bytes no memory bears"))
    let newCap ← choose (.appendCap need sCap elem)
    askRoom (newCap * (← typeInfo elem).bytes)
    let old ← Builtin.firstCells size sLen s
    let new ← app
    let rest := Builtin.zeroCells (← zeroValue elem).cells (newCap - need)
    pure (.slice (some (← newRow elem (old ++ new ++ rest))) need newCap)

/-- the world with one draw more -/
def drew1 (w : World) : World := { w with drawn := w.drawn + 1 }

theorem grow_run {w : World} {app : Sem (Array Value)} {elem : TypeId} {ti : TypeInfo} {z : Value} {n len : Nat} {new' old' : List Value} {x : Value} {zeros : Bool} (hti : P.info? elem = some ti) (hz : ti.zero = some z) (hsz : z.cells.size = ti.size)
    (hes0 : 0 < ti.size) (hby : ti.bytes ≤ 100000) (hM : len + n ≤ 1000000) (hnl : new'.length = n * ti.size) (hol : old'.length = len * ti.size) (happ : app.run P (drew1 w) = .ok ⟨new'⟩ (drew1 w))
    (b' : Option Addr) (c' : Nat) (hlt : c' < len + n) (hold : (Builtin.firstCells ti.size len (.slice b' len c')).run P (drew1 w) = .ok ⟨old'⟩ (drew1 w)) :
    ∃ (nc : Nat) (cc : Array Value) (w' : World), len + n ≤ nc ∧ cc.size = nc * ti.size ∧ (∃ r, cc.toList = old' ++ new' ++ r) ∧ AllocW w (.cells cc elem) w' ∧
      (appTail app elem ti.size b' len c' n x zeros (.slice b' len c')).run P w = .ok (.slice (some ⟨w.heap.size, 0, none⟩) (len + n) nc) w' := by
  let q := Question.appendCap (len + n) c' elem
  let nc := q.cut (w.tape w.drawn q)
  have hnc : len + n ≤ nc := by show len + n ≤ (len + n) + _; omega
  let cc : Array Value := (⟨old'⟩ ++ ⟨new'⟩ ++ Builtin.zeroCells z.cells (nc - (len + n)))
  have hzc : (Builtin.zeroCells z.cells (nc - (len + n))).size = (nc - (len + n)) * z.cells.size := by simp [Builtin.zeroCells]
  have hcs : cc.size = nc * ti.size := by
    show (_ ++ _ ++ _ : Array Value).size = _
    rw [Array.size_append, Array.size_append, hzc, hsz]
    show old'.length + new'.length + _ = _
    rw [hol, hnl, ← Nat.add_mul, ← Nat.add_mul]
    congr 1
    omega
  refine ⟨nc, cc, { drew1 w with heap := w.heap.push (.cells cc elem) }, hnc, hcs, ⟨(Builtin.zeroCells z.cells (nc - (len + n))).toList, by show (_ ++ _ ++ _ : Array Value).toList = _; simp⟩, ⟨rfl, rfl, rfl, rfl⟩, ?_⟩
  have h1 : ¬ (len + n ≤ c') := by omega
  have h2 : ¬ (((len + n : Nat) : Int) > IntKind.i64.max ∧ (zeros = true ∨ ti.bytes = 0)) := by
    rintro ⟨h, _⟩
    have : IntKind.i64.max = 9223372036854775807 := rfl
    omega
  have h3 : ¬ (Builtin.nextslicecap (len + n) c' * ti.bytes > 2 ^ 48) := by
    have := nextcap_le hlt
    have h4 : Builtin.nextslicecap (len + n) c' * ti.bytes ≤ 2000192 * 100000 := Nat.mul_le_mul (by omega) hby
    omega
  have hch : (choose (.appendCap (len + n) c' elem)).run P w = .ok nc (drew1 w) := by
    rw [run_choose]
    rfl
  unfold appTail
  simp only [h1, if_false, Sem.run_bind, run_tinfo hti, Result.andThen_ok, h2, h3, hch, run_askRoom, hold, happ, run_zero hti hz, Sem.run_pure]
  rfl

theorem VRs.of_prefix {ρ : Rho} {l l' r : List Value} (h : VRs ρ l l') (k : Nat) (v : Value) (hk : l[k]? = some v) : ∃ v', (l' ++ r)[k]? = some v' ∧ VR ρ v v' := by
  obtain ⟨v', h1, h2⟩ := h.get hk
  refine ⟨v', ?_, h2⟩
  rw [List.getElem?_append_left]
  · exact h1
  · rcases Nat.lt_or_ge k l'.length with h | h
    · exact h
    · rw [List.getElem?_eq_none h] at h1; cases h1

theorem OR_grown {ρ : Rho} {b : Nat} {cs l' r : List Value} {cc : Array Value} {e : TypeId} (h : VRs ρ cs l') (hc : cc.toList = l' ++ r) : OR ρ ⟨b, 0, cc.size⟩ (.cells cs) (some (.cells cc e (0, 0))) := by
  have hl := h.length
  have hcl : cc.size = l'.length + r.length := by rw [← Array.length_toList, hc]; simp
  refine ⟨cc, e, 0, 0, rfl, rfl, by simp only; omega, fun k v hk => ?_, .inl rfl⟩
  obtain ⟨v', h1, h2⟩ := h.of_prefix (r := r) k v hk
  refine ⟨v', ?_, h2⟩
  simp only [Nat.zero_add]
  rw [← Array.getElem?_toList, hc]
  exact h1

theorem appTo_ok {G R B : Nat} {ρ : Rho} {m m' : M} {w : World} {app : Sem (Array Value)} {elem : TypeId} {ti : TypeInfo} {z : Value} {base base' : Option Addr} {len cap cap' n : Nat} {new new' : List Value} {x : Value} {zeros : Bool} {v : Value}
    (hG : G ≤ R) (hs : Sim G B ρ m w) (hti : P.info? elem = some ti) (hz : ti.zero = some z) (hsz : z.cells.size = ti.size) (hes : ti.size < 256) (hes0 : 0 < ti.size) (hby : ti.bytes ≤ 100000) (hbase : VR ρ (.slice base len cap) (.slice base' len cap')) (hnew : VRs ρ new new') (hnl : new.length = n * ti.size)
    (hrun : app.run P w = .ok ⟨new'⟩ w) (hrun1 : app.run P (drew1 w) = .ok ⟨new'⟩ (drew1 w))
    (hmB : m'.next ≤ B) (h : appTo R ti.size base len cap n new m = some (v, m')) :
    ∃ v' w' ρ', (appTail app elem ti.size base' len cap' n x zeros (.slice base' len cap')).run P w = .ok v' w' ∧ VR ρ' v v' ∧ Ext R B ρ m w ρ' m' w' ∧ Sim G B ρ' m' w' := by
  have hnl' : new'.length = n * ti.size := by rw [← hnew.length]; exact hnl
  unfold appTo at h
  simp only [Nat.add_eq, Nat.mul_eq] at h
  cases hb : Nat.ble (len + n) (cap / 512) with
  | true =>
    rw [hb] at h
    simp only [cond_true] at h
    have hle : len + n ≤ cap / 512 := Nat.le_of_ble_eq_true hb
    cases hbase with
    | nils _ hc0 =>
      simp only at h
      have hn0 : n = 0 := by omega
      subst hn0
      simp at h
      obtain ⟨rfl, rfl⟩ := h
      refine ⟨.slice none 0 0, w, ρ, ?_, .nils _ hc0, Ext.refl _ _ _ _ _, hs⟩
      unfold appTail
      simp only [Nat.zero_add, Nat.le_refl, if_true, Sem.run_bind, hrun, Result.andThen_ok, Sem.run_pure]
    | slice _ hsr =>
      rename_i a a'
      obtain ⟨p1, p2, ⟨p3, p4⟩, p5, st, p6, p7⟩ := hsr
      simp only at h
      have hcle : len + n ≤ cap' := by omega
      cases hn : Nat.beq n 0 with
      | true =>
        rw [hn] at h
        simp only [cond_true] at h
        cases h
        have hn0 : n = 0 := Nat.eq_of_beq_eq_true hn
        subst hn0
        have hnil : new' = [] := by rw [← List.length_eq_zero_iff]; omega
        subst hnil
        refine ⟨.slice (some a') len cap', w, ρ, ?_, .slice _ ⟨p1, p2, ⟨p3, p4⟩, p5, st, p6, p7⟩, Ext.refl _ _ _ _ _, hs⟩
        have hcle' : len ≤ cap' := by omega
        unfold appTail
        simp only [Nat.add_zero, hcle', if_true, Sem.run_bind, hrun, Result.andThen_ok, Sem.run_pure, storeCells]
      | false =>
        rw [hn] at h
        simp only [cond_false] at h
        have hn0 : n ≠ 0 := fun e => by subst e; simp at hn
        split at h
        · rename_i m1 hm1
          cases h
          have har : AR ρ a a' := ⟨p1, p2, st, p6, fun l e => let ⟨p, q, _⟩ := p7 l e (by omega); ⟨p, q⟩⟩
          have har' := har.add (len * ti.size)
          obtain ⟨w', h1, h2, h3⟩ := store_rel (P := P) hs har' hnew hm1
          refine ⟨.slice (some a') (len + n) cap', w', ρ, ?_, .slice _ ⟨p1, p2, ⟨hle, p4⟩, p5, st, p6, p7⟩, h2, h3⟩
          unfold appTail
          simp only [hcle, if_true, Sem.run_bind, hrun, Result.andThen_ok, Sem.run_pure, h1]
        · cases h
  | false =>
    rw [hb] at h
    simp only [cond_false] at h
    have hgt : cap / 512 < len + n := by
      rcases Nat.lt_or_ge (cap / 512) (len + n) with h | h
      · exact h
      · have := Nat.ble_eq_true_of_le h; rw [hb] at this; cases this
    cases hb2 : (Nat.ble (len + n) 1000000 && Nat.ble R m.next) with
    | false => rw [hb2] at h; simp at h
    | true =>
      rw [hb2] at h
      simp only [cond_true] at h
      simp only [Bool.and_eq_true] at hb2
      have hM : len + n ≤ 1000000 := Nat.le_of_ble_eq_true hb2.1
      have hRn : R ≤ m.next := Nat.le_of_ble_eq_true hb2.2
      cases hbase with
      | nils _ hc0 =>
        simp only [Nat.beq_refl, cond_true, Nat.zero_add] at h
        cases h
        obtain ⟨nc, cc, w', g1, g2, ⟨r, g3⟩, g4, g5⟩ := grow_run (P := P) (w := w) (app := app) (x := x) (zeros := zeros) (len := 0) (old' := []) hti hz hsz hes0 hby (by omega) hnl' (by simp) hrun1 none 0 (by omega) rfl
        obtain ⟨e1, e2⟩ := sim_alloc (R := R) hs hRn hmB g4 (tot := cc.size) (o := .cells new) (fun ρ' hle _ => OR_grown (hnew.mono hle) g3)
        simp only [Nat.zero_add] at g5 g1
        refine ⟨_, w', _, g5, ?_, e1, e2⟩
        obtain ⟨k1, k2, k3⟩ := capOf_spec (c := n) (ex := 0) (es := ti.size) (by omega) hes
        exact .slice n ⟨rfl, rfl, ⟨by omega, by omega⟩, fun h => by omega, _, upd_same _ _ _, fun l e => by cases e; intro _; exact ⟨rfl, rfl, by rw [k3, g2]; simp⟩⟩
      | slice _ hsr =>
        rename_i a a'
        obtain ⟨p1, p2, ⟨p3, p4⟩, p5, st, p6, p7⟩ := hsr
        simp only at h
        split at h
        · cases h
        · rename_i old hold
          -- what the old cells are
          have hst : ∃ lo, st = .live lo := by
            cases st with
            | live lo => exact ⟨lo, rfl⟩
            | dead =>
              obtain ⟨c0, hc0, _⟩ := loadN_some hold
              rw [hs.dead _ p6] at hc0; rcases hc0 with h | h <;> cases h
            | «at» _ =>
              obtain ⟨c0, hc0, _⟩ := loadN_some hold
              rw [hs.sat _ _ p6] at hc0; rcases hc0 with h | h <;> cases h
          obtain ⟨lo, rfl⟩ := hst
          have haB : a.block < B := hs.lt (fun h0 => by obtain ⟨c0, hc0, _⟩ := loadN_some hold; rw [h0] at hc0; rcases hc0 with h | h <;> cases h)
          have hreads : ∃ old' : List Value, (Builtin.firstCells ti.size len (.slice (some a') len cap')).run P (drew1 w) = .ok ⟨old'⟩ (drew1 w) ∧ old'.length = len * ti.size ∧ VRs ρ old old' := by
            by_cases hl0 : len = 0
            · subst hl0
              refine ⟨[], ?_, by simp, ?_⟩
              · simp [Builtin.firstCells, loadCells, loadCellsFrom]
              · obtain ⟨c0, _, hc1, _⟩ := loadN_some hold
                rw [hc1, Nat.zero_mul]; exact .nil
            · have har : AR ρ a a' := ⟨p1, p2, _, p6, fun l e => let ⟨p, q, _⟩ := p7 l e (by omega); ⟨p, q⟩⟩
              obtain ⟨l', h1, h2, h3⟩ := load_rel hs har hold
              refine ⟨l', ?_, h2, h3⟩
              have := run_loadCells_list (P := P) (drew1 w) a' l' h1
              rw [h2] at this
              exact this
          obtain ⟨old', ho1, ho2, ho3⟩ := hreads
          have hol : old.length = len * ti.size := by rw [ho3.length]; exact ho2
          obtain ⟨k1, k2, k3⟩ := capOf_spec (c := len + n) (ex := 0) (es := ti.size) (by omega) hes
          cases hex : Nat.beq (cap / 256 % 2) 1 with
          | true =>
            rw [hex] at h
            simp only [cond_true] at h
            cases h
            have hcap := p5 (Nat.eq_of_beq_eq_true hex)
            obtain ⟨nc, cc, w', g1, g2, ⟨r, g3⟩, g4, g5⟩ := grow_run (P := P) (w := w) (app := app) (x := x) (zeros := zeros) hti hz hsz hes0 hby hM hnl' ho2 hrun1 (some a') cap' (by omega) ho1
            obtain ⟨e1, e2⟩ := sim_alloc (R := R) hs hRn hmB g4 (tot := cc.size) (o := .cells (old ++ new)) (fun ρ' hle _ => OR_grown ((ho3.append hnew).mono hle) g3)
            refine ⟨_, w', _, g5, ?_, e1, e2⟩
            exact .slice _ ⟨rfl, rfl, ⟨by omega, by omega⟩, fun h => by omega, _, upd_same _ _ _, fun l e => by cases e; intro _; exact ⟨rfl, rfl, by rw [k3, g2]; simp⟩⟩
          | false =>
            rw [hex] at h
            simp only [cond_false] at h
            cases hc3 : (Nat.ble R a.block && (Nat.beq (cap % 256) ti.size && (new.all oneV && isCl (m.mem.get a.block)))) with
            | false => rw [hc3] at h; simp at h
            | true =>
              rw [hc3] at h
              simp only [cond_true] at h
              cases h
              simp only [Bool.and_eq_true] at hc3
              have hRa : R ≤ a.block := Nat.le_of_ble_eq_true hc3.1
              have hes' : cap % 256 = ti.size := Nat.eq_of_beq_eq_true hc3.2.1
              by_cases hroom : len + n ≤ cap'
              · -- in place
                obtain ⟨q1, q2, q3⟩ := p7 lo rfl (by omega)
                have hin : a'.off + len * ti.size + new.length ≤ lo.total := by
                  rw [hnl, Nat.add_assoc, ← Nat.add_mul]
                  have := Nat.mul_le_mul_right ti.size hroom
                  rw [hes'] at q3
                  omega
                obtain ⟨w', ρ', s1, s2, s3, s4⟩ := sim_extend (P := P) (R := R) (n := len * ti.size) hs hG hRa hRn hmB p6 q1 q2 p2 (isCl_some hc3.2.2.2) hold hnew hc3.2.2.1 hin
                refine ⟨.slice (some a') (len + n) cap', w', ρ', ?_, ?_, s2, s3⟩
                · unfold appTail
                  simp only [hroom, if_true, Sem.run_bind, hrun, Result.andThen_ok, Sem.run_pure, add_off p2, s1]
                · refine .slice _ ⟨rfl, p2, ⟨by omega, by omega⟩, fun h => by omega, _, s4, fun l e => ?_⟩
                  cases e
                  intro _
                  exact ⟨q1, by simp, by rw [k3, ← hes']; exact q3⟩
              · -- a new row
                obtain ⟨nc, cc, w', g1, g2, ⟨r, g3⟩, g4, g5⟩ := grow_run (P := P) (w := w) (app := app) (x := x) (zeros := zeros) hti hz hsz hes0 hby hM hnl' ho2 hrun1 (some a') cap' (by omega) ho1
                obtain ⟨f1, f2⟩ := sim_kill (R := R) hs hRa hG haB p6
                obtain ⟨e1, e2⟩ := sim_alloc (R := R) f2 (m := kill m a.block) hRn hmB g4 (tot := cc.size) (o := .cells (old ++ new)) (fun ρ' hle _ => OR_grown ((ho3.append hnew).mono (Rho.le_trans (upd_le_dead p6) hle)) g3)
                refine ⟨_, w', _, g5, ?_, f1.trans e1, e2⟩
                exact .slice _ ⟨rfl, rfl, ⟨by omega, by omega⟩, fun h => by omega, _, upd_same _ _ _, fun l e => by cases e; intro _; exact ⟨rfl, rfl, by rw [k3, g2]; simp⟩⟩

theorem run_firstCells_src {G B : Nat} {ρ : Rho} {m : M} {w : World} {es n : Nat} {src src' : Value} {new : List Value} (hs : Sim G B ρ m w) (hx : VR ρ src src') (h : srcN es m src = some (n, new)) :
    ∃ new' : List Value, VRs ρ new new' ∧ new.length = n * es ∧ (∀ d, (Builtin.firstCells es n src').run P { w with drawn := d } = .ok ⟨new'⟩ { w with drawn := d }) ∧ (∀ d, (Builtin.lenOf src').run P { w with drawn := d } = .ok n { w with drawn := d }) := by
  unfold srcN at h
  split at h
  · cases h
    cases hx
    exact ⟨[], .nil, by simp, fun d => rfl, fun d => rfl⟩
  · rename_i a k c
    split at h
    · rename_i l hl
      cases h
      cases hx with
      | slice _ hsr =>
        rename_i a' c'
        obtain ⟨p1, p2, ⟨p3, p4⟩, p5, st, p6, p7⟩ := hsr
        simp only [Nat.mul_eq] at hl
        by_cases hn : n = 0
        · subst hn
          have hb0 : new = [] := by
            obtain ⟨c0, _, hc1, _⟩ := loadN_some hl
            rw [hc1, Nat.zero_mul]; rfl
          subst hb0
          exact ⟨[], .nil, by simp, fun d => by simp [Builtin.firstCells, loadCells, loadCellsFrom], fun d => rfl⟩
        · have har : AR ρ a a' := ⟨p1, p2, st, p6, fun l e => let ⟨p, q, _⟩ := p7 l e (by omega); ⟨p, q⟩⟩
          obtain ⟨l', q1, q2, q3⟩ := load_rel hs har hl
          refine ⟨l', q3, by rw [q3.length]; exact q2, fun d => ?_, fun d => rfl⟩
          have := run_loadCells_list (P := P) { w with drawn := d } a' l' q1
          rw [q2] at this
          exact this
    · cases h
  · rename_i b
    cases hb : Nat.beq es 1 with
    | false => rw [hb] at h; simp at h
    | true =>
      rw [hb] at h
      cases h
      have he : es = 1 := Nat.eq_of_beq_eq_true hb
      subst he
      cases hx
      refine ⟨b.data.toList.map fun c => Value.int .u8 (.ofNat c.toNat), ?_, by simp, fun d => ?_, fun d => rfl⟩
      · refine VRs.of_get rfl fun k v v' hk hk' => ?_
        rw [hk] at hk'; cases hk'
        rw [List.getElem?_map] at hk
        cases hg : b.data.toList[k]? with
        | none => rw [hg] at hk; simp at hk
        | some u => rw [hg] at hk; simp at hk; subst hk; exact .int _ _
      · simp only [Builtin.firstCells, Sem.run_pure]
        congr 1
        apply Array.ext'
        rw [Array.toList_map]
        have : (b.extract 0 b.size).data.toList = b.data.toList := by
          rw [ByteArray.data_extract]; simp
          exact List.take_of_length_le (by simp)
        rw [this]
        rfl
  · cases h

theorem appTo_next {R es : Nat} {base : Option Addr} {len cap n : Nat} {new : List Value} {m m' : M} {v : Value} (h : appTo R es base len cap n new m = some (v, m')) : m.next ≤ m'.next := by
  unfold appTo at h
  cases hb : Nat.ble (Nat.add len n) (cap / 512) with
  | true =>
    rw [hb] at h
    simp only [cond_true] at h
    cases base with
    | none =>
      simp only at h
      cases hq : Nat.beq (Nat.add len n) 0 with
      | true => rw [hq] at h; cases h; exact Nat.le_refl _
      | false => rw [hq] at h; cases h
    | some a =>
      simp only at h
      cases hq : Nat.beq n 0 with
      | true => rw [hq] at h; cases h; exact Nat.le_refl _
      | false =>
        rw [hq] at h
        simp only [cond_false] at h
        split at h
        · rename_i m1 hm1; cases h; exact Nat.le_of_eq (storeM_next hm1).symm
        · cases h
  | false =>
    rw [hb] at h
    simp only [cond_false] at h
    cases hb2 : (Nat.ble (Nat.add len n) 1000000 && Nat.ble R m.next) with
    | false => rw [hb2] at h; cases h
    | true =>
      rw [hb2] at h
      simp only [cond_true] at h
      cases base with
      | none =>
        simp only at h
        cases hq : Nat.beq len 0 with
        | true => rw [hq] at h; cases h; exact Nat.le_succ _
        | false => rw [hq] at h; cases h
      | some a =>
        simp only at h
        split at h
        · cases h
        · cases hex : Nat.beq (cap / 256 % 2) 1 with
          | true => rw [hex] at h; cases h; exact Nat.le_succ _
          | false =>
            rw [hex] at h
            simp only [cond_false] at h
            cases hc3 : (Nat.ble R a.block && (Nat.beq (cap % 256) es && (new.all oneV && isCl (m.mem.get a.block)))) with
            | false => rw [hc3] at h; cases h
            | true => rw [hc3] at h; cases h; exact Nat.le_succ _

theorem append_ok {R : Nat} {x y : Operand} {t u elem : TypeId} {ti : TypeInfo} {z : Value} {d : TypeDesc} (hG : True) (ho : o.op = .call { callee := .builtin .append, args := #[x, y], argTypes := #[t, u] }) (ht : P.underlying t = some (.slice elem))
    (hu : P.underlying u = some d) (hd : ∀ k, d ≠ .int k) (hti : P.info? elem = some ti) (hz : ti.zero = some z) (hsz : z.cells.size = ti.size) (hes : ti.size < 256) (hes0 : 0 < ti.size) (hby : ti.bytes ≤ 100000) : EffOK R P o (eApp R ti.size) := by
  refine ⟨fun l m v m' h => ?_, ?_⟩
  · unfold eApp at h
    split at h
    · split at h
      · cases h
      · exact appTo_next h
    · cases h
  intro G B ρ m w e l v m' hGR hs hB hl hv
  have hl' : VRs ρ l [e x, e y] := by simpa [Op.operands, Call.operands, ho] using hl
  obtain ⟨a, b, rfl, hx, hy⟩ := hl'.two
  unfold eApp at hv
  split at hv
  · rename_i base len cap src heq
    simp only [List.cons.injEq, and_true] at heq
    obtain ⟨rfl, rfl⟩ := heq
    split at hv
    · cases hv
    · rename_i n new hsrc
      obtain ⟨new', h1, h2, h3, h4⟩ := run_firstCells_src (P := P) hs hy hsrc
      have hsl : ∃ base' cap', e x = .slice base' len cap' ∧ VR ρ (.slice base len cap) (.slice base' len cap') := by
        generalize e x = ex at hx
        cases hx with
        | nils _ h => exact ⟨_, _, rfl, .nils _ h⟩
        | slice _ h => exact ⟨_, _, rfl, .slice _ h⟩
      obtain ⟨base', cap', hex, hb⟩ := hsl
      have g3 := h3 w.drawn
      have g4 := h4 w.drawn
      obtain ⟨v', w', ρ', r1, r2, r3, r4⟩ := appTo_ok (P := P) (x := e y) (zeros := false) (app := Builtin.firstCells ti.size n (e y)) hGR hs hti hz hsz hes hes0 hby hb h1 h2 (h3 w.drawn) (h3 (w.drawn + 1)) hB hv
      refine ⟨v', w', ρ', .inl ?_, r2, r3, r4⟩
      refine run_builtin ho (vals := #[e x, e y]) (by simp) (fun c => rfl) (s := Builtin.append_ #[t, u] o.type #[e x, e y]) ?_
      rw [← r1]
      have hz0 : (match d with | .int _ => true | _ => false) = false := by cases d <;> first | rfl | exact absurd rfl (hd _)
      cases d <;> first
        | exact absurd rfl (hd _)
        | (simp only [Builtin.append_, List.getElem?_toArray, List.getElem?_cons_zero, List.getElem?_cons_succ, Sem.run_bind, run_und ht, run_und hu, Result.andThen_ok, hex, run_szOf hti, Sem.run_pure, Bool.false_eq_true, if_false, g4]
           simp only [appTail, Bool.not_false, if_true, Bool.false_eq_true, if_false]
           rfl)
  · cases hv
end
end Go.HM
