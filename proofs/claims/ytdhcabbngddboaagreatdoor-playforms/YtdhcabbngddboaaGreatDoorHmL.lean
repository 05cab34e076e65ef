import Derived.Test.YtdhcabbngddboaaGreatDoorHmK
set_option linter.unusedVariables false
set_option linter.unusedSimpArgs false
namespace Go.HM

section
variable {P : Program} {o : Oper}

theorem zeroCells_eq (z : Array Value) (n : Nat) (h : n * z.size = 0 ∨ z.size ≠ 0) : (Builtin.zeroCells z n).toList = zerosOf z.toList (n * z.size) := zerosOf_eq z (n * z.size) h

theorem appendZ_ok {R : Nat} {x y : Operand} {t u elem : TypeId} {ti : TypeInfo} {z : Value} {k : IntKind} (ho : o.op = .call { callee := .builtin .append, args := #[x, y], argTypes := #[t, u] }) (ht : P.underlying t = some (.slice elem))
    (hu : P.underlying u = some (.int k)) (hti : P.info? elem = some ti) (hz : ti.zero = some z) (hsz : z.cells.size = ti.size) (hes : ti.size < 256) (hes0 : 0 < ti.size) (hby : ti.bytes ≤ 100000) (hp : ∀ ρ, VRs ρ z.cells.toList z.cells.toList) :
    EffOK R P o (eAppZ R ti.size z.cells.toList) := by
  refine ⟨fun l m v m' h => ?_, ?_⟩
  · unfold eAppZ at h
    split at h
    · rename_i n
      cases hb : Nat.ble n 1000000 with
      | false => rw [hb] at h; cases h
      | true => rw [hb] at h; exact appTo_next h
    · cases h
  intro G B ρ m w e l v m' hGR hs hB hl hv
  have hl' : VRs ρ l [e x, e y] := by simpa [Op.operands, Call.operands, ho] using hl
  obtain ⟨a, b, rfl, hx, hy⟩ := hl'.two
  unfold eAppZ at hv
  split at hv
  · rename_i base len cap k' n heq
    simp only [List.cons.injEq, and_true] at heq
    obtain ⟨rfl, rfl⟩ := heq
    cases hb' : Nat.ble n 1000000 with
    | false => rw [hb'] at hv; simp at hv
    | true =>
      rw [hb'] at hv
      simp only [cond_true, Nat.mul_eq] at hv
      have hn : n ≤ 1000000 := Nat.le_of_ble_eq_true hb'
      have hsl : ∃ base' cap', e x = .slice base' len cap' ∧ VR ρ (.slice base len cap) (.slice base' len cap') := by
        generalize e x = ex at hx
        cases hx with
        | nils _ h => exact ⟨_, _, rfl, .nils _ h⟩
        | slice _ h => exact ⟨_, _, rfl, .slice _ h⟩
      obtain ⟨base', cap', hex, hb⟩ := hsl
      generalize hey : e y = ey at hy
      cases hy
      have hnz : n * ti.size = 0 ∨ z.cells.toList ≠ [] := by
        right; intro h0
        have : z.cells.size = 0 := by rw [← Array.length_toList, h0]; rfl
        omega
      let app : Sem (Array Value) := if n * ti.size = 0 then pure #[] else do pure (Builtin.zeroCells (← zeroValue elem).cells n)
      have happ : ∀ w : World, app.run P w = .ok ⟨zerosOf z.cells.toList (n * ti.size)⟩ w := by
        intro w
        by_cases h : n * ti.size = 0
        · simp only [app, h, if_true, Sem.run_pure]
          congr 2
          unfold zerosOf
          split <;> simp
        · simp only [app, h, if_false, Sem.run_bind, run_zero hti hz, Result.andThen_ok, Sem.run_pure]
          congr 1
          apply Array.ext'
          rw [zeroCells_eq _ _ (.inr (by omega)), hsz]
      obtain ⟨v', w', ρ', r1, r2, r3, r4⟩ := appTo_ok (P := P) (x := .int k' n) (zeros := true) (app := app) hGR hs hti hz hsz hes hes0 hby hb (zerosOf_plain hp hnz ρ)
        (by unfold zerosOf; split <;> simp) (happ w) (happ (drew1 w)) hB hv
      refine ⟨v', w', ρ', .inl ?_, r2, r3, r4⟩
      refine run_builtin ho (vals := #[e x, e y]) (by simp) (fun c => rfl) (s := Builtin.append_ #[t, u] o.type #[e x, e y]) ?_
      rw [← r1]
      have hw : IntKind.i64.wrap (Int.ofNat n) = (n : Int) := IntWalk.i64_in (n : Int) ⟨by omega, by omega⟩
      have h0 : ¬ ((n : Int) < 0) := by omega
      have h2 : ¬ ((n : Int) * (ti.bytes : Int) > 2 ^ 48) := by
        rw [← Int.natCast_mul]
        have : n * ti.bytes ≤ 1000000 * 100000 := Nat.mul_le_mul hn hby
        omega
      simp only [Builtin.append_, List.getElem?_toArray, List.getElem?_cons_zero, List.getElem?_cons_succ, Sem.run_bind, run_und ht, run_und hu, Result.andThen_ok, hex, hey, run_szOf hti, Sem.run_pure, if_true,
        asInt, asIntOf, hw, h0, if_false, run_tinfo hti, h2, Int.toNat_natCast]
      simp only [appTail, Bool.not_true, if_true, Bool.false_eq_true, if_false, app]
      rfl
  · cases hv

noncomputable def eCopy (R es : Nat) : EF
  | [.slice base dLen _, src], m =>
    match src with
    | .slice sb sLen _ =>
      let n := bif Nat.ble sLen dLen then sLen else dLen
      bif Nat.beq n 0 then some (.int .i64 0, m) else
      (match base, sb with
       | some a, some b => (match loadN m b.block b.off (Nat.mul n es) with
         | some cs => (match storeM R m a.block a.off cs with | some m' => some (.int .i64 (.ofNat n), m') | none => none)
         | none => none)
       | _, _ => none)
    | _ => none
  | _, _ => none
theorem copy_ok {R : Nat} {x y : Operand} {t elem : TypeId} {at' : Array TypeId} {ti : TypeInfo} (ho : o.op = .call { callee := .builtin .copy, args := #[x, y], argTypes := at' }) (h0 : at'[0]? = some t) (ht : P.underlying t = some (.slice elem))
    (hti : P.info? elem = some ti) : EffOK R P o (eCopy R ti.size) := by
  refine ⟨fun l m v m' h => ?_, ?_⟩
  · unfold eCopy at h
    split at h
    · split at h
      · simp only at h
        generalize hq : Nat.beq (bif Nat.ble _ _ then _ else _) 0 = q at h
        cases q with
        | true => cases h; exact Nat.le_refl _
        | false =>
          simp only [cond_false] at h
          split at h
          · split at h
            · split at h
              · rename_i m1 hm1; cases h; exact Nat.le_of_eq (storeM_next hm1).symm
              · cases h
            · cases h
          · cases h
      · cases h
    · cases h
  intro G B ρ m w e l v m' hGR hs hB hl hv
  have hl' : VRs ρ l [e x, e y] := by simpa [Op.operands, Call.operands, ho] using hl
  obtain ⟨a, b, rfl, hx, hy⟩ := hl'.two
  have hrun : ∀ u w', (Builtin.copy_ at' o.type #[e x, e y]).run P w = .ok u w' → (execOp e o).run P w = .ok (.value u) w' := fun u w' hu => run_builtin ho (vals := #[e x, e y]) (by simp) (fun c => rfl) hu
  generalize hex : e x = ex at hx hrun
  generalize hey : e y = ey at hy hrun
  unfold eCopy at hv
  split at hv
  case h_2 => cases hv
  case h_1 base dLen dc src heq =>
  simp only [List.cons.injEq, and_true] at heq
  obtain ⟨rfl, rfl⟩ := heq
  split at hv
  case h_2 => cases hv
  case h_1 sb sLen sc =>
  have hmin : (bif Nat.ble sLen dLen then sLen else dLen) = Nat.min sLen dLen := by
    cases hb : Nat.ble sLen dLen with
    | true => exact (Nat.min_eq_left (Nat.le_of_ble_eq_true hb)).symm
    | false =>
      have : ¬ sLen ≤ dLen := fun h => by have := Nat.ble_eq_true_of_le h; rw [hb] at this; cases this
      have h2 : dLen ≤ sLen := by omega
      exact (Nat.min_eq_right h2).symm
  simp only [hmin, Nat.mul_eq] at hv
  have hxl : ∃ base' dc', ex = .slice base' dLen dc' := by cases hx <;> exact ⟨_, _, rfl⟩
  have hyl : ∃ sb' sc', ey = .slice sb' sLen sc' := by cases hy <;> exact ⟨_, _, rfl⟩
  obtain ⟨base', dc', rfl⟩ := hxl
  obtain ⟨sb', sc', rfl⟩ := hyl
  cases hn : Nat.beq (Nat.min sLen dLen) 0 with
  | true =>
    rw [hn] at hv
    cases hv
    have hn0 : Nat.min sLen dLen = 0 := Nat.eq_of_beq_eq_true hn
    refine ⟨_, w, ρ, .inl (hrun (.int .i64 0) w ?_), .int _ _, Ext.refl _ _ _ _ _, hs⟩
    have hfc : (Builtin.firstCells ti.size 0 (.slice sb' sLen sc')).run P w = .ok #[] w := by
      cases sb' <;> simp [Builtin.firstCells, loadCells, loadCellsFrom]
    simp only [Builtin.copy_, h0, List.getElem?_toArray, List.getElem?_cons_zero, List.getElem?_cons_succ, Sem.run_bind, run_und ht, Result.andThen_ok, Builtin.lenOf, Sem.run_pure, hn0, run_szOf hti, hfc]
    cases base' <;> simp [storeCells, goInt]
  | false =>
    rw [hn] at hv
    simp only [cond_false] at hv
    have hn0 : Nat.min sLen dLen ≠ 0 := fun h => by rw [h] at hn; simp at hn
    have hn1 : 0 < sLen ∧ 0 < dLen := by
      have : Nat.min sLen dLen = min sLen dLen := rfl
      omega
    split at hv
    case h_2 => cases hv
    case h_1 a b =>
    split at hv
    case h_2 => cases hv
    case h_1 cs hcs =>
    split at hv
    case h_2 => cases hv
    case h_1 m1 hm1 =>
    cases hv
    cases hx with
    | slice _ hxr =>
      rename_i a'
      cases hy with
      | slice _ hyr =>
        rename_i b'
        obtain ⟨p1, p2, ⟨p3, p4⟩, p5, st, p6, p7⟩ := hxr
        obtain ⟨q1, q2, ⟨q3, q4⟩, q5, st', q6, q7⟩ := hyr
        have har : AR ρ a a' := ⟨p1, p2, st, p6, fun l e => let ⟨p, q, _⟩ := p7 l e (by omega); ⟨p, q⟩⟩
        have hbr : AR ρ b b' := ⟨q1, q2, st', q6, fun l e => let ⟨p, q, _⟩ := q7 l e (by omega); ⟨p, q⟩⟩
        obtain ⟨l', r1, r2, r3⟩ := load_rel hs hbr hcs
        obtain ⟨w', s1, s2, s3⟩ := store_rel (P := P) hs har r3 hm1
        refine ⟨_, w', ρ, .inl (hrun (.int .i64 (Nat.min sLen dLen : Nat)) w' ?_), .int _ _, s2, s3⟩
        have hlc := run_loadCells_list (P := P) w b' l' r1
        rw [r2] at hlc
        simp only [Builtin.copy_, h0, List.getElem?_toArray, List.getElem?_cons_zero, List.getElem?_cons_succ, Sem.run_bind, run_und ht, Result.andThen_ok, Builtin.lenOf, Sem.run_pure, run_szOf hti, Builtin.firstCells, hlc, s1, goInt]
noncomputable def eClear (R es : Nat) (zl : List Value) : EF
  | [.slice base n _], m => bif Nat.beq n 0 then some (undefV, m) else
    (match base with
     | some a => (match storeM R m a.block a.off (zerosOf zl (Nat.mul n es)) with | some m' => some (undefV, m') | none => none)
     | none => none)
  | _, _ => none
theorem clear_ok {R : Nat} {x : Operand} {t elem : TypeId} {at' : Array TypeId} {ti : TypeInfo} {z : Value} (ho : o.op = .call { callee := .builtin .clear, args := #[x], argTypes := at' }) (h0 : at'[0]? = some t) (ht : P.underlying t = some (.slice elem))
    (hti : P.info? elem = some ti) (hz : ti.zero = some z) (hsz : z.cells.size = ti.size) (hes0 : 0 < ti.size) (hp : ∀ ρ, VRs ρ z.cells.toList z.cells.toList) : EffOK R P o (eClear R ti.size z.cells.toList) := by
  refine ⟨fun l m v m' h => ?_, ?_⟩
  · unfold eClear at h
    split at h
    · rename_i base n _
      cases hq : Nat.beq n 0 with
      | true => rw [hq] at h; cases h; exact Nat.le_refl _
      | false =>
        rw [hq] at h
        simp only [cond_false] at h
        split at h
        · split at h
          · rename_i m1 hm1; cases h; exact Nat.le_of_eq (storeM_next hm1).symm
          · cases h
        · cases h
    · cases h
  intro G B ρ m w e l v m' hGR hs hB hl hv
  have hl' : VRs ρ l [e x] := by simpa [Op.operands, Call.operands, ho] using hl
  obtain ⟨a, rfl, hx⟩ := hl'.one
  have hrun : ∀ u w', (Builtin.clear_ at' o.type #[e x]).run P w = .ok u w' → (execOp e o).run P w = .ok (.value u) w' := fun u w' hu => run_builtin ho (vals := #[e x]) (by simp) (fun c => rfl) hu
  generalize hex : e x = ex at hx hrun
  unfold eClear at hv
  split at hv
  case h_2 => cases hv
  case h_1 base n c heq =>
  simp only [List.cons.injEq, and_true] at heq
  subst heq
  cases hn : Nat.beq n 0 with
  | true =>
    rw [hn] at hv
    cases hv
    have hn0 : n = 0 := Nat.eq_of_beq_eq_true hn
    subst hn0
    refine ⟨_, w, ρ, .inl (hrun undef w ?_), VRundef ρ, Ext.refl _ _ _ _ _, hs⟩
    cases hx <;> simp [Builtin.clear_, h0, run_und ht] <;> rfl
  | false =>
    rw [hn] at hv
    simp only [cond_false] at hv
    have hn0 : n ≠ 0 := fun h => by rw [h] at hn; simp at hn
    split at hv
    case h_2 => cases hv
    case h_1 a =>
    split at hv
    case h_2 => cases hv
    case h_1 m1 hm1 =>
    cases hv
    cases hx with
    | slice _ hxr =>
      rename_i a' c'
      obtain ⟨p1, p2, ⟨p3, p4⟩, p5, st, p6, p7⟩ := hxr
      have har : AR ρ a a' := ⟨p1, p2, st, p6, fun l e => let ⟨p, q, _⟩ := p7 l e (by omega); ⟨p, q⟩⟩
      have hnz : n * ti.size = 0 ∨ z.cells.toList ≠ [] := by
        right; intro h0
        have : z.cells.size = 0 := by rw [← Array.length_toList, h0]; rfl
        omega
      obtain ⟨w', s1, s2, s3⟩ := store_rel (P := P) hs har (zerosOf_plain hp hnz ρ) hm1
      refine ⟨_, w', ρ, .inl (hrun undef w' ?_), VRundef ρ, s2, s3⟩
      have hzc : (Builtin.zeroCells z.cells n).toList = zerosOf z.cells.toList (n * ti.size) := by rw [zeroCells_eq _ _ (.inr (by omega)), hsz]
      obtain ⟨n', rfl⟩ : ∃ n', n = n' + 1 := ⟨n - 1, by omega⟩
      simp only [Builtin.clear_, h0, List.getElem?_toArray, List.getElem?_cons_zero, Sem.run_bind, run_und ht, Result.andThen_ok, run_zero hti hz, hzc]
      have s1' := s1
      simp only [s1', Result.andThen_ok, Sem.run_pure]
      rfl

/-! ### a text, letter by letter -/
noncomputable def eNext (R : Nat) : EF
  | [.pointer (some a)], m => bif Nat.beq a.off 0 && Nat.ble R a.block then
    (match m.mem.get a.block with
     | .iter s pos => (match s.data.toList[pos]? with
       | some c => bif Nat.blt c.toNat 128 then some (.tuple ⟨[.bool true, .int .i64 (.ofNat pos), .int .i32 (.ofNat c.toNat)]⟩, ⟨m.next, m.mem.set a.block (.iter s (pos + 1))⟩) else none
       | none => some (.tuple ⟨[.bool false]⟩, m))
     | _ => none) else none
  | _, _ => none
/-- one object that is no row, written -/
theorem setObj_rel {G R B : Nat} {ρ : Rho} {m : M} {w : World} {id : Nat} {lo : Loc} {o' : HO} {c c' : Obj} (hs : Sim G B ρ m w) (hid : ρ id = some (.live lo)) (hidB : id < B) (hR : R ≤ id) (hw : w.heap[lo.b]? = some c) (ho : OR ρ lo o' (some c')) :
    Ext R B ρ m w ρ ⟨m.next, m.mem.set id o'⟩ { w with heap := w.heap.setIfInBounds lo.b c' } ∧ Sim G B ρ ⟨m.next, m.mem.set id o'⟩ { w with heap := w.heap.setIfInBounds lo.b c' } := by
  have hlt := hs.blk _ _ hid
  refine ⟨⟨ρ.le_refl, Nat.le_refl _, fun i hn hlt => ⟨hn, ?_⟩, fun i hi => ⟨rfl, ?_⟩, fun i hi => ⟨rfl, fun l hl => ?_⟩, rfl, rfl, rfl, by simp, fun b hb hk => ?_, fun i l h => .inr ⟨i, l, h, rfl, fun _ => rfl⟩⟩, ⟨fun i l hiB h => ?_, hs.inj, fun i l h => by simpa using hs.blk i l h, hs.fresh, fun i h => ?_, fun i h => ?_, hs.glob, fun i a h => ?_⟩⟩
  · show (m.mem.set id _).get i = _
    rw [TM.get_set, if_neg (fun e => by subst e; rw [hid] at hn; cases hn)]
  · show (m.mem.set id _).get i = _
    rw [TM.get_set, if_neg (by omega)]
  · show (w.heap.setIfInBounds lo.b c')[l.b]? = _
    rw [Array.getElem?_setIfInBounds_ne (fun e => by have := hs.inj _ _ _ _ hl hid e.symm; omega)]
  · show (w.heap.setIfInBounds lo.b c')[b]? = _
    rw [Array.getElem?_setIfInBounds_ne (fun e => by have := hk id lo hid e; omega)]
  · show OR ρ l ((m.mem.set id _).get i) (w.heap.setIfInBounds lo.b c')[l.b]?
    rw [TM.get_set]
    by_cases hi' : i = id
    · subst hi'
      rw [hid] at h; cases h
      rw [if_pos rfl, Array.getElem?_setIfInBounds_self_of_lt hlt]
      exact ho
    · rw [if_neg hi']
      have hne : lo.b ≠ l.b := fun e => hi' (hs.inj _ _ _ _ h hid e.symm)
      rw [Array.getElem?_setIfInBounds_ne hne]
      exact hs.obj _ _ hiB h
  · show (m.mem.set id _).get i = _
    have hln := hs.ltn hidB hid
    have h : B ≤ i ∨ m.next ≤ i := h
    rw [TM.get_set, if_neg (by omega)]
    exact hs.high i h
  · show (m.mem.set id _).get i = _
    rw [TM.get_set, if_neg (fun e => by subst e; rw [hid] at h; cases h)]
    exact hs.dead i h
  · show (m.mem.set id _).get i = _
    rw [TM.get_set, if_neg (fun e => by subst e; rw [hid] at h; cases h)]
    exact hs.sat i a h
theorem next_ok {R : Nat} {x : Operand} (ho : o.op = .next x true) : EffOK R P o (eNext R) := by
  refine ⟨fun l m v m' h => ?_, ?_⟩
  · unfold eNext at h
    split at h
    · rename_i a
      cases hq : (Nat.beq a.off 0 && Nat.ble R a.block) with
      | false => rw [hq] at h; cases h
      | true =>
        rw [hq] at h
        simp only [cond_true] at h
        split at h
        · split at h
          · rename_i c _
            cases hc : Nat.blt c.toNat 128 with
            | true => rw [hc] at h; cases h; exact Nat.le_refl _
            | false => rw [hc] at h; cases h
          · cases h; exact Nat.le_refl _
        · cases h
    · cases h
  intro G B ρ m w e l v m' hGR hs hB hl hv
  have hl' : VRs ρ l [e x] := by simpa [Op.operands, ho] using hl
  obtain ⟨a, rfl, hx⟩ := hl'.one
  unfold eNext at hv
  split at hv
  case h_2 => cases hv
  case h_1 a heq =>
  simp only [List.cons.injEq, and_true] at heq
  subst heq
  cases hb : (Nat.beq a.off 0 && Nat.ble R a.block) with
  | false => rw [hb] at hv; simp at hv
  | true =>
    rw [hb] at hv
    simp only [Bool.and_eq_true] at hb
    have h0 : a.off = 0 := Nat.eq_of_beq_eq_true hb.1
    have hR : R ≤ a.block := Nat.le_of_ble_eq_true hb.2
    simp only [cond_true] at hv
    split at hv
    case h_2 => cases hv
    case h_1 s pos hm =>
    generalize hex : e x = ex at hx
    cases hx with
    | ptr har =>
      rename_i a'
      obtain ⟨p1, p2, st, p3, p4⟩ := har
      cases st with
      | dead => rw [hs.dead _ p3] at hm; cases hm
      | «at» _ => rw [hs.sat _ _ p3] at hm; cases hm
      | live lo =>
        obtain ⟨q1, q2⟩ := p4 lo rfl
        have hidB : a.block < B := hs.lt (by rw [hm]; simp)
        have hob := hs.obj _ _ hidB p3
        rw [hm] at hob
        obtain ⟨hbase, hw⟩ := hob
        obtain ⟨b', o', sp⟩ := a'
        simp only at q1 q2 p2
        subst q1; subst p2
        have ho0 : o' = 0 := by omega
        subst ho0
        have hgo : (getObj lo.b).run P w = .ok (.stringIter s pos) w := by
          simp only [getObj, Sem.run, hw]
        cases hg : s.data.toList[pos]? with
        | none =>
          rw [hg] at hv
          cases hv
          refine ⟨.tuple #[.bool false], w, ρ, .inl ?_, .tuple (.cons (.bool _) .nil), Ext.refl _ _ _ _ _, hs⟩
          have hge : ¬ (pos < s.size) := by
            intro h
            have : pos < s.data.toList.length := by simpa using h
            rw [List.getElem?_eq_getElem this] at hg; cases hg
          unfold execOp; rw [ho]
          simp only [Sem.run_bind, hex, Instr.next, hgo, Result.andThen_ok, hge, if_false, Sem.run_pure]
        | some c =>
          rw [hg] at hv
          simp only at hv
          cases hc : Nat.blt c.toNat 128 with
          | false => rw [hc] at hv; simp at hv
          | true =>
            rw [hc] at hv
            cases hv
            have hc' : c.toNat < 128 := Nat.lt_of_succ_le (Nat.le_of_ble_eq_true hc)
            rw [List.getElem?_eq_some_iff] at hg
            obtain ⟨hlt, hg⟩ := hg
            have hlt' : pos < s.size := by simpa using hlt
            have hdec : Utf8.decode s pos = (c.toNat, 1) := by
              have hget! : s.get! (pos + 0) = c := by
                show s.data[pos + 0]! = c
                simp only [Nat.add_zero]
                rw [getElem!_pos s.data pos (by simpa using hlt)]
                rw [← hg]; simp
              unfold Utf8.decode
              simp only [hget!, hc', if_true]
            obtain ⟨r1, r2⟩ := setObj_rel (R := R) (o' := .iter s (pos + 1)) (c' := .stringIter s (pos + 1)) hs p3 hidB hR hw ⟨hbase, rfl⟩
            refine ⟨.tuple #[.bool true, goInt pos, .int .i32 c.toNat], _, ρ, .inl ?_, .tuple (.cons (.bool _) (.cons (.int _ _) (.cons (.int _ _) .nil))), r1, r2⟩
            unfold execOp; rw [ho]
            have hso : (setObj lo.b (.stringIter s (pos + 1))).run P w = .ok () { w with heap := w.heap.setIfInBounds lo.b (.stringIter s (pos + 1)) } := by
              simp only [setObj, Sem.run, hw]
            simp only [Sem.run_bind, hex, Instr.next, hgo, Result.andThen_ok, hlt', if_true, hdec, hso, Sem.run_pure]
end
end Go.HM
