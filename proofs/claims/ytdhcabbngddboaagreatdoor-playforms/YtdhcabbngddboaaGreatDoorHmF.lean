import Derived.Test.YtdhcabbngddboaaGreatDoorHmE
set_option linter.unusedVariables false
set_option linter.unusedSimpArgs false
namespace Go.HM

/-! ### rows of cells written over -/
def cellsOfV : Value → List Value
  | .agg c => c.toList
  | v => [v]
theorem VR.cells {ρ : Rho} {v v' : Value} (h : VR ρ v v') : VRs ρ (cellsOfV v) v'.cells.toList := by
  have h' := h
  cases h <;> first | exact .cons h' .nil | (rename_i h; exact h)

noncomputable def setR0 (vs : List Value) : List Value → Option (List Value) :=
  List.rec (motive := fun _ => List Value → Option (List Value)) (fun cs => some cs)
    (fun v _ ih cs => List.rec (motive := fun _ => Option (List Value)) none (fun _ cs' _ => Option.rec (motive := fun _ => Option (List Value)) none (fun r => some (v :: r)) (ih cs')) cs) vs
noncomputable def setRN (vs : List Value) (n : Nat) : List Value → Option (List Value) :=
  Nat.rec (motive := fun _ => List Value → Option (List Value)) (setR0 vs)
    (fun _ ih cs => List.rec (motive := fun _ => Option (List Value)) none (fun c cs' _ => Option.rec (motive := fun _ => Option (List Value)) none (fun r => some (c :: r)) (ih cs')) cs) n
noncomputable def setR (cs : List Value) (n : Nat) (vs : List Value) : Option (List Value) := setRN vs n cs
theorem setR_a (cs : List Value) : setR cs 0 [] = some cs := rfl
theorem setR_b (c : Value) (cs : List Value) (v : Value) (vs : List Value) : setR (c :: cs) 0 (v :: vs) = match setR cs 0 vs with | some r => some (v :: r) | none => none := by
  show Option.rec (motive := fun _ => Option (List Value)) none (fun r => some (v :: r)) (setR cs 0 vs) = _
  cases setR cs 0 vs <;> rfl
theorem setR_c (v : Value) (vs : List Value) : setR [] 0 (v :: vs) = none := rfl
theorem setR_d (c : Value) (cs : List Value) (n : Nat) (vs : List Value) : setR (c :: cs) (n + 1) vs = match setR cs n vs with | some r => some (c :: r) | none => none := by
  show Option.rec (motive := fun _ => Option (List Value)) none (fun r => some (c :: r)) (setR cs n vs) = _
  cases setR cs n vs <;> rfl
theorem setR_e (n : Nat) (vs : List Value) : setR [] (n + 1) vs = none := rfl

theorem setR_spec : ∀ (cs : List Value) (n : Nat) (vs r : List Value), setR cs n vs = some r →
    n + vs.length ≤ cs.length ∧ r.length = cs.length ∧ ∀ k : Nat, r[k]? = if n ≤ k ∧ k < n + vs.length then vs[k - n]? else cs[k]? := by
  intro cs
  induction cs with
  | nil =>
    intro n vs r h
    cases n with
    | zero => cases vs with
      | nil => rw [setR_a] at h; cases h; simp
      | cons => rw [setR_c] at h; cases h
    | succ n => rw [setR_e] at h; cases h
  | cons c cs ih =>
    intro n vs r h
    cases n with
    | zero =>
      cases vs with
      | nil => rw [setR_a] at h; cases h; refine ⟨by simp, rfl, fun k => ?_⟩; rw [if_neg (by simp)]
      | cons v vs =>
        rw [setR_b] at h
        split at h
        · rename_i r' hr
          cases h
          obtain ⟨h1, h2, h3⟩ := ih 0 vs r' hr
          refine ⟨by simp; omega, by simp [h2], fun k => ?_⟩
          cases k with
          | zero => simp
          | succ k =>
            have := h3 k
            simp only [List.getElem?_cons_succ, this, Nat.zero_le, true_and, Nat.zero_add, Nat.sub_zero, List.length_cons]
            by_cases hk : k < vs.length
            · rw [if_pos hk, if_pos (by omega)]
            · rw [if_neg hk, if_neg (by omega)]
        · cases h
    | succ n =>
      rw [setR_d] at h
      split at h
      · rename_i r' hr
        cases h
        obtain ⟨h1, h2, h3⟩ := ih n vs r' hr
        refine ⟨by simp; omega, by simp [h2], fun k => ?_⟩
        cases k with
        | zero => simp
        | succ k =>
          have := h3 k
          simp only [List.getElem?_cons_succ, this]
          by_cases hk : n ≤ k ∧ k < n + vs.length
          · rw [if_pos hk, if_pos (by omega), show k + 1 - (n + 1) = k - n by omega]
          · rw [if_neg hk, if_neg (by omega)]
      · cases h

/-- the model's own way to write over -/
theorem foldl_set (off : Nat) : ∀ (vs : List Value) (j : Nat) (c : Array Value), off + j + vs.length ≤ c.size →
    (vs.zipIdx j).foldl (fun cs (p : Value × Nat) => cs.setIfInBounds (off + p.2) p.1) c =
      ((vs.zipIdx j).foldl (fun cs (p : Value × Nat) => cs.setIfInBounds (off + p.2) p.1) c) ∧
    ((vs.zipIdx j).foldl (fun cs (p : Value × Nat) => cs.setIfInBounds (off + p.2) p.1) c).size = c.size ∧
    ∀ k : Nat, ((vs.zipIdx j).foldl (fun cs (p : Value × Nat) => cs.setIfInBounds (off + p.2) p.1) c)[k]? = if off + j ≤ k ∧ k < off + j + vs.length then vs[k - (off + j)]? else c[k]? := by
  intro vs
  induction vs with
  | nil => intro j c h; simp; intro k hk; omega
  | cons v vs ih =>
    intro j c h
    refine ⟨rfl, ?_⟩
    simp only [List.zipIdx_cons, List.foldl_cons]
    obtain ⟨_, h2, h3⟩ := ih (j + 1) (c.setIfInBounds (off + j) v) (by simp at h ⊢; omega)
    refine ⟨by rw [h2]; simp, fun k => ?_⟩
    rw [h3 k]
    by_cases hk : off + (j + 1) ≤ k ∧ k < off + (j + 1) + vs.length
    · rw [if_pos hk, if_pos (by simp; omega), show k - (off + j) = (k - (off + (j + 1))) + 1 by omega]; simp
    · rw [if_neg hk]
      by_cases hk0 : k = off + j
      · subst hk0
        rw [if_pos (by simp)]
        simp at h ⊢
        rw [Array.getElem?_setIfInBounds_self_of_lt (by omega)]
      · rw [if_neg (by simp; omega), Array.getElem?_setIfInBounds_ne (by omega)]

theorem setR_rel {ρ : Rho} {cs vs r : List Value} {off : Nat} {cc vc : Array Value} (hc : VRs ρ cs cc.toList) (hv : VRs ρ vs vc.toList) (h : setR cs off vs = some r) :
    off + vc.size ≤ cc.size ∧ VRs ρ r (vc.zipIdx.foldl (fun cs (p : Value × Nat) => cs.setIfInBounds (off + p.2) p.1) cc).toList := by
  obtain ⟨h1, h2, h3⟩ := setR_spec _ _ _ _ h
  have hl1 := hc.length
  have hl2 := hv.length
  simp only [Array.length_toList] at hl1 hl2
  have hb : off + vc.size ≤ cc.size := by omega
  refine ⟨hb, ?_⟩
  have hz : vc.zipIdx.foldl (fun cs (p : Value × Nat) => cs.setIfInBounds (off + p.2) p.1) cc = (vc.toList.zipIdx 0).foldl (fun cs (p : Value × Nat) => cs.setIfInBounds (off + p.2) p.1) cc := by
    rw [← Array.foldl_toList, Array.toList_zipIdx]
  rw [hz]
  obtain ⟨_, h5, h6⟩ := foldl_set off vc.toList 0 cc (by simp; omega)
  refine VRs.of_get (h2.trans (hl1.trans (h5.symm.trans (Array.length_toList).symm))) fun k v v' hk hk' => ?_
  rw [Array.getElem?_toList, h6 k] at hk'
  rw [h3 k] at hk
  simp only [Nat.add_zero, Array.length_toList] at hk'
  by_cases hkk : off ≤ k ∧ k < off + vs.length
  · rw [if_pos hkk] at hk
    rw [if_pos (by omega)] at hk'
    obtain ⟨x, hx1, hx2⟩ := hv.get hk
    rw [hk'] at hx1; cases hx1; exact hx2
  · rw [if_neg hkk] at hk
    rw [if_neg (by omega)] at hk'
    obtain ⟨x, hx1, hx2⟩ := hc.get hk
    simp only [Array.getElem?_toList] at hx1
    rw [hk'] at hx1; cases hx1; exact hx2

noncomputable def fillL (cells : List Value) : List (Nat × Nat) → List Value → Option (List Value)
  | [], [] => some cells
  | (off, size) :: ps, v :: vs => bif Nat.beq (cellsOfV v).length size then (match setR cells off (cellsOfV v) with | some c => fillL c ps vs | none => none) else none
  | _, _ => none

theorem fill_ok {ρ : Rho} {place : Nat → Option (Nat × Nat)} : ∀ (parts : List (Nat × Value)) (ps : List (Nat × Nat)) (vs c : List Value) (cc : Array Value) (r : List Value),
    VRs ρ c cc.toList → parts.map (fun p => place p.1) = ps.map some → VRs ρ vs (parts.map (·.2)) → fillL c ps vs = some r → ∃ rr, Instr.fill place cc parts = some rr ∧ VRs ρ r rr.toList := by
  intro parts
  induction parts with
  | nil =>
    intro ps vs c cc r hc hp hv h
    cases hv
    cases ps with
    | nil => simp only [fillL] at h; cases h; exact ⟨cc, rfl, hc⟩
    | cons => simp at hp
  | cons p parts ih =>
    intro ps vs c cc r hc hp hv h
    obtain ⟨i, v'⟩ := p
    cases ps with
    | nil => simp at hp
    | cons q ps =>
      obtain ⟨off, size⟩ := q
      simp only [List.map_cons, List.cons.injEq] at hp
      cases hv with
      | cons hv1 hv2 =>
        rename_i v vs
        simp only [fillL] at h
        cases hb : Nat.beq (cellsOfV v).length size with
        | false => rw [hb] at h; simp at h
        | true =>
          rw [hb] at h
          simp only [cond_true] at h
          have hsz : (cellsOfV v).length = size := Nat.eq_of_beq_eq_true hb
          split at h
          · rename_i c1 hc1
            have hcl := hv1.cells.length
            simp only [Array.length_toList] at hcl
            obtain ⟨hb2, hr⟩ := setR_rel hc hv1.cells hc1
            have hb3 : off + v'.cells.size ≤ cc.size := hb2
            have hcl3 : (cellsOfV v).length = v'.cells.size := hcl
            obtain ⟨rr, h1, h2⟩ := ih ps vs c1 _ r hr hp.2 hv2 h
            refine ⟨rr, ?_, h2⟩
            simp only [Instr.fill, hp.1]
            rw [if_neg (by simp only [Bool.or_eq_true, bne_iff_ne, decide_eq_true_eq, ne_eq]; omega)]
            exact h1
          · cases h

section
variable {P : Program} {o : Oper}
theorem zipmap {parts : List (Nat × Operand)} {e : Operand → Value} : (parts.map fun (p : Nat × Operand) => (p.1, e p.2)).map (·.2) = (parts.map (·.2)).map e := by
  simp
noncomputable def vBuild (zero : List Value) (ps : List (Nat × Nat)) : FN := fun vs => match fillL zero ps vs with | some c => some (.agg ⟨c⟩) | none => none
/-- the places of the fields, as the model finds them -/
theorem run_places {w : World} (fs : Array Field) (pl : Array (Nat × Nat)) (h : fs.toList.map (fun f => (P.info? f.type).map fun j => (f.offset, j.size)) = pl.toList.map some) :
    (fs.mapM fun f => (do pure (f.offset, ← sizeOf f.type) : Sem (Nat × Nat))).run P w = .ok pl w := by
  have key : ∀ (l : List Field) (pl : List (Nat × Nat)), l.map (fun f => (P.info? f.type).map fun j => (f.offset, j.size)) = pl.map some →
      (l.mapM fun f => (do pure (f.offset, ← sizeOf f.type) : Sem (Nat × Nat))).run P w = .ok pl w := by
    intro l
    induction l with
    | nil => intro pl h; cases pl with | nil => rfl | cons => simp at h
    | cons f l ih =>
      intro pl h
      cases pl with
      | nil => simp at h
      | cons p pl =>
        simp only [List.map_cons, List.cons.injEq] at h
        obtain ⟨h1, h2⟩ := h
        cases hi : P.info? f.type with
        | none => rw [hi] at h1; simp at h1
        | some j =>
          rw [hi] at h1
          simp only [Option.map_some, Option.some.injEq] at h1
          subst h1
          simp only [List.mapM_cons, Sem.run_bind, run_szOf hi, Result.andThen_ok, Sem.run_pure, ih pl h2]
  rw [Array.mapM_eq_mapM_toList, Sem.run_map, key _ _ h]
  simp
theorem build_ok {t : TypeId} {parts : Array (Nat × Operand)} {fs : Array Field} {ti : TypeInfo} {z : Value} {ps : List (Nat × Nat)} {pl : Array (Nat × Nat)} (ho : o.op = .build t parts) (hd : P.underlying t = some (.struct fs))
    (ht : P.info? t = some ti) (hz : ti.zero = some z) (hpl : fs.toList.map (fun f => (P.info? f.type).map fun j => (f.offset, j.size)) = pl.toList.map some)
    (hps : parts.toList.map (fun p => pl[p.1]?) = ps.map some) (hp : ∀ ρ, VRs ρ z.cells.toList z.cells.toList) : PureOK P o (vBuild z.cells.toList ps) := by
  intro ρ w e l v hl hv
  have hl' : VRs ρ l ((parts.toList.map (·.2)).map e) := by simpa [Op.operands, ho] using hl
  simp only [vBuild] at hv
  split at hv
  · rename_i c hc
    cases hv
    obtain ⟨rr, h1, h2⟩ := fill_ok (place := fun i => pl[i]?) (parts.toList.map fun (p : Nat × Operand) => (p.1, e p.2)) ps l z.cells.toList z.cells c (hp ρ) (by rw [List.map_map]; exact hps) (by rw [zipmap]; exact hl') hc
    refine ⟨.agg rr, ?_, .agg h2⟩
    unfold execOp; rw [ho]
    have hm : (parts.map fun (i, x) => (i, e x)).toList = parts.toList.map fun (p : Nat × Operand) => (p.1, e p.2) := by simp
    simp only [Instr.build, Sem.run_bind, run_zero ht hz, run_und hd, Result.andThen_ok, run_places fs pl hpl, hm, h1, Sem.run_pure]
  · cases hv

def vExt (i : Nat) : F1 | .tuple vs => vs.toList[i]? | _ => none
theorem extract_ok {x : Operand} {i : Nat} (ho : o.op = .extract x i) : PureOK P o (f1 (vExt i)) := by
  intro ρ w e l v hl hv
  have hl' : VRs ρ l [e x] := by simpa [Op.operands, ho] using hl
  obtain ⟨a, rfl, ha⟩ := hl'.one
  simp only [f1, vExt] at hv
  split at hv
  · generalize hx : e x = ex at ha
    cases ha with
    | tuple h =>
      obtain ⟨v', h1, h2⟩ := h.get hv
      refine ⟨v', ?_, h2⟩
      unfold execOp; rw [ho]
      simp [Instr.extract, hx, h1]
  · cases hv
def vFunc (fn : Fn) (k : Nat) : FN := fun l => some (.func fn ⟨l.take k⟩ ⟨l.drop k⟩)
theorem VRs.take {ρ : Rho} {l l' : List Value} (h : VRs ρ l l') (k : Nat) : VRs ρ (l.take k) (l'.take k) := by
  induction k generalizing l l' with
  | zero => simp; exact .nil
  | succ k ih => cases h with | nil => simp; exact .nil | cons h1 h2 => simp; exact .cons h1 (ih h2)
theorem VRs.drop {ρ : Rho} {l l' : List Value} (h : VRs ρ l l') (k : Nat) : VRs ρ (l.drop k) (l'.drop k) := by
  induction k generalizing l l' with
  | zero => simpa using h
  | succ k ih => cases h with | nil => simp; exact .nil | cons h1 h2 => simp; exact ih h2
theorem func_ok {fn : Fn} {first captured : Array Operand} (ho : o.op = .makeFunc fn first captured) : PureOK P o (vFunc fn first.size) := by
  intro ρ w e l v hl hv
  have hl' : VRs ρ l (first.toList.map e ++ captured.toList.map e) := by simpa [Op.operands, ho] using hl
  cases hv
  refine ⟨.func fn (first.map e) (captured.map e), ?_, ?_⟩
  · unfold execOp; rw [ho]; simp [Instr.makeFunc]
  · have h1 := hl'.take first.size
    have h2 := hl'.drop first.size
    rw [List.take_left' (by simp)] at h1
    rw [List.drop_left' (by simp)] at h2
    have e1 : first.map e = ⟨first.toList.map e⟩ := by apply Array.ext'; simp
    have e2 : captured.map e = ⟨captured.toList.map e⟩ := by apply Array.ext'; simp
    rw [e1, e2]
    exact .func fn h1 h2
def vIdxS : F2
  | .string s, .int _ (.ofNat i) => match s.data.toList[i]? with | some c => some (.int .u8 (.ofNat c.toNat)) | none => none
  | _, _ => none
theorem index_ok {x y : Operand} {t : TypeId} (ho : o.op = .index t x y) (hd : P.underlying t = some .string) : PureOK P o (f2 vIdxS) := by
  intro ρ w e l v hl hv
  have hl' : VRs ρ l [e x, e y] := by simpa [Op.operands, ho] using hl
  obtain ⟨a, b, rfl, ha, hb⟩ := hl'.two
  simp only [f2, vIdxS] at hv
  split at hv
  · rename_i s k i
    split at hv
    · rename_i c hc
      cases hv
      generalize hx : e x = ex at ha
      generalize hy : e y = ey at hb
      cases ha; cases hb
      refine ⟨_, ?_, .int _ _⟩
      unfold execOp; rw [ho]
      have hs : s[i]? = some c := by
        rw [List.getElem?_eq_some_iff] at hc
        obtain ⟨hi, hc⟩ := hc
        have hi' : i < s.size := by simpa using hi
        rw [getElem?_pos s i hi']
        simp only [Option.some.injEq]
        rw [← hc]; rfl
      have e1 : (Int.ofNat i).toNat = i := rfl
      have e2 : (0 : Int) ≤ Int.ofNat i := by simp
      simp only [Instr.index, Sem.run_bind, asIntOf, hy, hx, Sem.run_pure, Result.andThen_ok, run_und hd, e2, if_true, e1, hs]
      rfl
    · cases hv
  · cases hv
end
end Go.HM
