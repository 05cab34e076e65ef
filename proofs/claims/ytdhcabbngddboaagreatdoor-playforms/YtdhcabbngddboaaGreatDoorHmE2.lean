import Derived.Test.YtdhcabbngddboaaGreatDoorHmF
set_option linter.unusedVariables false
set_option linter.unusedSimpArgs false
namespace Go.HM

/-! ### structs held against each other -/
theorem bytes_ext0 {a b : ByteArray} (h : a.data.toList = b.data.toList) : a = b := by
  cases a; cases b; congr 1; exact Array.toList_inj.1 h
theorem eqK_equalIn {P : Program} {t : TypeId} {d : TypeDesc} {q : EqK} {a b : Value} {r : Bool} (hd : P.underlying t = some d) (hq : eqKOf d = some q) (h : eqK q a b = some r) (n : Nat) (w : World) : (Op.equalIn (n + 1) t a b).run P w = .ok r w := by
  have hu : (underlying t).run P w = .ok d w := run_und hd
  unfold eqK at h
  split at h
  · rename_i k i j m
    cases hk : beqK k j with
    | false => rw [hk] at h; cases h
    | true =>
      rw [hk] at h; cases h
      have := beqK_iff.1 hk; subst this
      cases d <;> simp [eqKOf] at hq
      simp [Op.equalIn, hu, beqInt_eq]
  · cases h
    cases d <;> simp [eqKOf] at hq
    simp only [Op.equalIn, Sem.run_bind, hu, Result.andThen_ok, Sem.run_pure, Result.ok.injEq, and_true]
    show (_ == _) = _
    rw [Bool.eq_iff_iff, beqBytes_iff]
    show ((ByteArray.data _ == ByteArray.data _) = true) ↔ _
    rw [beq_iff_eq]
    exact ⟨fun h => by rw [h], fun h => Array.toList_inj.1 h⟩
  all_goals
    cases d <;> first | (simp [eqKOf] at hq; done) | (simp at h; done) | (cases h; simp [Op.equalIn, hu])

noncomputable def eqFlat : List (Nat × EqK) → List Value → List Value → Option Bool
  | [], _, _ => some true
  | (off, q) :: r, xs, ys => match xs[off]?, ys[off]? with
    | some a, some b => (match eqK q a b with | some true => eqFlat r xs ys | some false => some false | none => none)
    | _, _ => none
noncomputable def bEqS (ks : List (Nat × EqK)) (neg : Bool) : F2
  | .agg a, .agg b => (match eqFlat ks a.toList b.toList with | some r => some (.bool (bif neg then !r else r)) | none => none)
  | _, _ => none

inductive FldK (P : Program) : Nat → List Field → List (Nat × EqK) → Prop
  | nil {D} : FldK P D [] []
  | cons {D f d q fs ks} : f.name ≠ "_" → P.underlying f.type = some d → eqKOf d = some q → FldK P D fs ks → FldK P D (f :: fs) ((f.offset, q) :: ks)
  | consS {D f fs' ti ks' fs ks} : f.name ≠ "_" → P.underlying f.type = some (.struct fs') → P.stoodInHeld f.type = false → P.info? f.type = some ti → FldK P D fs'.toList ks' → (∀ k ∈ ks', k.1 < ti.size) →
      FldK P (D + 1) fs ks → FldK P (D + 1) (f :: fs) (ks'.map (fun k => (f.offset + k.1, k.2)) ++ ks)

theorem eqFlat_append (xs ys : List Value) (b : List (Nat × EqK)) : ∀ a : List (Nat × EqK), eqFlat (a ++ b) xs ys = match eqFlat a xs ys with | some true => eqFlat b xs ys | some false => some false | none => none := by
  intro a
  induction a with
  | nil => rfl
  | cons kq a ih =>
    obtain ⟨off, q⟩ := kq
    simp only [List.cons_append, eqFlat]
    split
    · split
      · exact ih
      · rfl
      · rfl
    · rfl
theorem eqFlat_shift (xs ys : List Value) (off n : Nat) : ∀ ks : List (Nat × EqK), (∀ k ∈ ks, k.1 < n) → eqFlat (ks.map fun k => (off + k.1, k.2)) xs ys = eqFlat ks ((xs.drop off).take n) ((ys.drop off).take n) := by
  intro ks
  induction ks with
  | nil => intro _; rfl
  | cons kq ks ih =>
    obtain ⟨o, q⟩ := kq
    intro h
    have ho : o < n := h (o, q) List.mem_cons_self
    simp only [List.map_cons, eqFlat]
    rw [List.getElem?_take, List.getElem?_take, if_pos ho, if_pos ho, List.getElem?_drop, List.getElem?_drop, ih fun k hk => h k (List.mem_cons_of_mem _ hk)]

theorem eqKOf_agg {d : TypeDesc} {q : EqK} (h : eqKOf d = some q) : isAggB d = false := by cases d <;> simp [eqKOf] at h <;> rfl
theorem run_part1 {P : Program} {t : TypeId} {d : TypeDesc} {cs : Array Value} {off : Nat} {v : Value} {w : World} (hd : P.underlying t = some d) (ha : isAggB d = false) (hv : cs[off]? = some v) : (part t cs off).run P w = .ok v w := by
  unfold part
  simp only [Sem.run_bind, run_isAggD hd, Result.andThen_ok, ha, Bool.false_eq_true, if_false, hv, Sem.run_pure]

theorem eqFlat_VR {ρ : Rho} {xs ys xs' ys' : List Value} (hx : VRs ρ xs xs') (hy : VRs ρ ys ys') : ∀ {ks : List (Nat × EqK)} {r : Bool}, eqFlat ks xs ys = some r → eqFlat ks xs' ys' = some r := by
  intro ks
  induction ks with
  | nil => intro r h; exact h
  | cons kq ks ih =>
    obtain ⟨off, q⟩ := kq
    intro r h
    simp only [eqFlat] at h ⊢
    split at h
    · rename_i a b ha hb
      obtain ⟨a', e1, e2⟩ := hx.get ha
      obtain ⟨b', e3, e4⟩ := hy.get hb
      rw [e1, e3]
      simp only
      split at h
      · rename_i hq; rw [eqK_VR e2 e4 hq]; exact ih h
      · rename_i hq; rw [eqK_VR e2 e4 hq]; exact h
      · cases h
    · cases h

abbrev eqBody (n : Nat) (xs ys : Array Value) (f : Field) : Sem (ForInStep (Option Bool × Unit)) :=
  if f.name ≠ "_" then do
    let a ← part f.type xs f.offset
    let b ← part f.type ys f.offset
    let e ← Op.equalIn n f.type a b
    if !e then pure (ForInStep.done (some false, ())) else pure (ForInStep.yield (none, ()))
  else pure (ForInStep.yield (none, ()))

theorem run_equalS0 {P : Program} {w : World} {n : Nat} {t : TypeId} {fs : Array Field} {xs ys : Array Value} {r : Bool} (hd : P.underlying t = some (.struct fs)) (hst : P.stoodInHeld t = false)
    (h : ∃ b, (forIn (m := Sem) fs.toList ((none : Option Bool), ()) (fun f _ => eqBody n xs ys f)).run P w = .ok b w ∧ b.1 = (if r then none else some false)) :
    (Op.equalIn (n + 1) t (.agg xs) (.agg ys)).run P w = .ok r w := by
  have hu : (underlying t).run P w = .ok (.struct fs) w := run_und hd
  obtain ⟨b, h1, h2⟩ := h
  rw [Op.equalIn]
  simp only [Sem.run_bind, hu, Result.andThen_ok, run_program, hst, Bool.false_eq_true, if_false]
  rw [Array.forIn_toList] at h1
  rw [h1]
  simp only [Result.andThen_ok, h2]
  cases r <;> rfl

theorem run_eqFlat {P : Program} {w : World} {D : Nat} {fs : List Field} {ks : List (Nat × EqK)} (h : FldK P D fs ks) : ∀ (n : Nat) (xs ys : Array Value) (r : Bool), eqFlat ks xs.toList ys.toList = some r →
    ∃ b, (forIn (m := Sem) fs ((none : Option Bool), ()) (fun f _ => eqBody (n + D + 1) xs ys f)).run P w = .ok b w ∧ b.1 = (if r then none else some false) := by
  induction h with
  | nil => intro n xs ys r hr; simp only [eqFlat] at hr; cases hr; exact ⟨_, rfl, rfl⟩
  | cons h1 h2 h3 h4 ih =>
    rename_i D f d q fs ks
    intro n xs ys r hr
    simp only [eqFlat] at hr
    split at hr
    · rename_i a b ha hb
      have ha' : xs[f.offset]? = some a := by simpa using ha
      have hb' : ys[f.offset]? = some b := by simpa using hb
      rw [List.forIn_cons]
      have hag := eqKOf_agg h3
      split at hr
      · rename_i hq
        obtain ⟨b', e1, e2⟩ := ih n xs ys r hr
        refine ⟨b', ?_, e2⟩
        simp [eqBody, h1, run_part1 h2 hag ha', run_part1 h2 hag hb', eqK_equalIn h2 h3 hq (n + D) w]
        simpa [eqBody] using e1
      · rename_i hq
        cases hr
        refine ⟨(some false, ()), ?_, rfl⟩
        simp [eqBody, h1, run_part1 h2 hag ha', run_part1 h2 hag hb', eqK_equalIn h2 h3 hq (n + D) w]
      · cases hr
    · cases hr
  | consS h1 h2 h3 h4 h5 h6 h7 ih1 ih2 =>
    rename_i D f fs' ti ks' fs ks
    intro n xs ys r hr
    rw [eqFlat_append, eqFlat_shift _ _ _ ti.size _ h6] at hr
    have hp : ∀ (cs : Array Value), (part f.type cs f.offset).run P w = .ok (.agg (cs.extract f.offset (f.offset + ti.size))) w := by
      intro cs
      unfold part
      simp only [Sem.run_bind, run_isAggD h2, Result.andThen_ok, isAggB, if_true, run_szOf h4, Sem.run_pure]
    have hx : ∀ cs : Array Value, (cs.extract f.offset (f.offset + ti.size)).toList = (cs.toList.drop f.offset).take ti.size := by
      intro cs
      rw [Array.toList_extract, List.extract_eq_take_drop, Nat.add_sub_cancel_left]
    have key : ∀ r', eqFlat ks' ((xs.toList.drop f.offset).take ti.size) ((ys.toList.drop f.offset).take ti.size) = some r' →
        (Op.equalIn (n + D + 2) f.type (.agg (xs.extract f.offset (f.offset + ti.size))) (.agg (ys.extract f.offset (f.offset + ti.size)))).run P w = .ok r' w :=
      fun r' hr' => run_equalS0 h2 h3 (ih1 n _ _ r' (by rw [hx, hx]; exact hr'))
    rw [List.forIn_cons]
    split at hr
    · rename_i hq
      obtain ⟨b', e1, e2⟩ := ih2 n xs ys r hr
      refine ⟨b', ?_, e2⟩
      have hk : (Op.equalIn (n + (D + 1) + 1) f.type (.agg (xs.extract f.offset (f.offset + ti.size))) (.agg (ys.extract f.offset (f.offset + ti.size)))).run P w = .ok true w := by
        have := key true hq
        rwa [show n + (D + 1) + 1 = n + D + 2 by omega]
      simp [eqBody, h1, hp, hk]
      simpa [eqBody] using e1
    · rename_i hq
      cases hr
      refine ⟨(some false, ()), ?_, rfl⟩
      have hk : (Op.equalIn (n + (D + 1) + 1) f.type (.agg (xs.extract f.offset (f.offset + ti.size))) (.agg (ys.extract f.offset (f.offset + ti.size)))).run P w = .ok false w := by
        have := key false hq
        rwa [show n + (D + 1) + 1 = n + D + 2 by omega]
      simp [eqBody, h1, hp, hk]
    · cases hr

theorem run_equalS {P : Program} {w : World} {n D : Nat} {t : TypeId} {fs : Array Field} {xs ys : Array Value} {ks : List (Nat × EqK)} {r : Bool} (hd : P.underlying t = some (.struct fs)) (hst : P.stoodInHeld t = false) (hf : FldK P D fs.toList ks) (hr : eqFlat ks xs.toList ys.toList = some r) :
    (Op.equalIn (n + D + 2) t (.agg xs) (.agg ys)).run P w = .ok r w := run_equalS0 hd hst (run_eqFlat hf n xs ys r hr)

theorem bEqS_ok {P : Program} {o : Oper} {t : TypeId} {x y : Operand} {yt : TypeId} {op : BinOp} (hop : op = .eql ∨ op = .neq) (ho : o.op = .binOp op t x y yt) {fs : Array Field} (hd : P.underlying t = some (.struct fs)) (hst : P.stoodInHeld t = false)
    (hg : P.eqGuardType P.depth t = false) {ks : List (Nat × EqK)} (hf : FldK P 3 fs.toList ks) : PureOK P o (f2 (bEqS ks (op == .neq))) := by
  intro ρ w e l v hl hv
  have hl' : VRs ρ l [e x, e y] := by simpa [Op.operands, ho] using hl
  obtain ⟨a, b, rfl, ha, hb⟩ := hl'.two
  simp only [f2] at hv
  unfold bEqS at hv
  split at hv
  · rename_i a b
    split at hv
    · rename_i r hr
      cases hv
      generalize hx : e x = ex at ha
      generalize hy : e y = ey at hb
      cases ha with
      | agg ha =>
      rename_i as as'
      cases hb with
      | agg hb =>
      rename_i bs bs'
      have hr' := eqFlat_VR ha hb hr
      refine ⟨_, run_bin ho e (v := .bool (bif (op == .neq) then !r else r)) ?_ ?_, .bool _⟩
      · rw [hx, hy]
        rcases hop with rfl | rfl <;> simp [eqGuard, hg]
      · rw [hx, hy]
        have h' : (Op.equal t (.agg ⟨as'⟩) (.agg ⟨bs'⟩)).run P w = .ok r w := run_equalS (n := 9995) (D := 3) hd hst hf hr'
        rcases hop with rfl | rfl
        · show (do pure (.bool (← Op.equal t (.agg ⟨as'⟩) (.agg ⟨bs'⟩))) : Sem Value).run P w = _
          simp only [Sem.run_bind, h', Result.andThen_ok, Sem.run_pure]; rfl
        · show (do pure (.bool (!(← Op.equal t (.agg ⟨as'⟩) (.agg ⟨bs'⟩)))) : Sem Value).run P w = _
          simp only [Sem.run_bind, h', Result.andThen_ok, Sem.run_pure]; rfl
    · cases hv
  · cases hv
end Go.HM
