import Derived.Test.YtdhcabbngddboaaGreatDoorHmV
import Derived.Test.YtdhcabbngddboaaGreatDoorHmS
set_option linter.unusedVariables false
set_option linter.unusedSimpArgs false
namespace Go.HM

/-! ### regions -/
section
variable (P : Program) (R G N : Nat)
noncomputable def cGuard (ops : Array Oper) : Option (Nat × Bool) → Option (Option (Pt × Bool))
  | none => some none
  | some (j, b) => match ops[j]? with
    | some oj => (match oj.dst with | some d => bif Nat.blt d N then some (some (Pt.ofNat d, b)) else none | none => none)
    | none => none
noncomputable def cR (ops : Array Oper) (o : Oper) : Option HR :=
  match cGuard N ops o.guard with
  | some g => some ⟨o.dst.map Pt.ofNat, g, match cOp P R G N o.op with | some h => h | none => .bad⟩
  | none => none
noncomputable def cRs (ops : Array Oper) : List Oper → Option (List HR)
  | [] => some []
  | o :: l => match cR P R G N ops o, cRs ops l with | some h, some r => some (h :: r) | _, _ => none
end

theorem cOp_nd {P : Program} {R G N : Nat} {o : Oper} {h : HOp} (hc : cOp P R G N o.op = some h) : NoD o := by
  intro c e
  rw [e] at hc
  unfold cOp at hc
  split at hc
  · simp [cOp1] at hc
  · cases hc
theorem cR_ok {P : Program} {R G N : Nat} {ops : Array Oper} {o : Oper} {h : HR} (hc : cR P R G N ops o = some h) : HROK P R G N ops o h := by
  unfold cR at hc
  split at hc
  · rename_i g h2
    cases hc
    refine ⟨rfl, ?_, ?_⟩
    rotate_left
    · show (match cOp P R G N o.op with | some h => h | none => .bad) = .bad ∨ _
      split
      · rename_i h h1; exact .inr ⟨cOp_ok h1, cOp_nd h1⟩
      · exact .inl rfl
    cases hg : o.guard with
    | none => rw [hg] at h2; cases h2; rfl
    | some jb =>
      obtain ⟨j, b⟩ := jb
      rw [hg] at h2
      simp only [cGuard] at h2
      split at h2
      · rename_i oj hoj
        split at h2
        · rename_i d hd
          cases hb : Nat.blt d N with
          | false => rw [hb] at h2; cases h2
          | true => rw [hb] at h2; cases h2; exact ⟨oj, d, hoj, hd, Nat.le_of_ble_eq_true hb, rfl⟩
        · cases h2
      · cases h2
  · cases hc
theorem cRs_ok {P : Program} {R G N : Nat} {ops : Array Oper} : ∀ {l : List Oper} {i : Nat} {hs : List HR}, cRs P R G N ops l = some hs → (∀ j, ops[i + j]? = l[j]?) → RegOK P R G N ops i hs := by
  intro l
  induction l with
  | nil =>
    intro i hs h hg
    simp only [cRs] at h; cases h
    refine .nil ?_
    have := hg 0
    simp at this
    exact this
  | cons o l ih =>
    intro i hs h hg
    simp only [cRs] at h
    split at h
    · rename_i h0 r h1 h2
      cases h
      refine .cons (by simpa using hg 0) (cR_ok h1) (ih h2 fun j => ?_)
      have := hg (j + 1)
      rw [show i + (j + 1) = i + 1 + j by omega] at this
      simpa using this
    · cases h

/-! ### the order of what is drawn -/
def ptEq : Pt → Pt → Bool
  | .h, .h => true
  | .o a, .o b => ptEq a b
  | .i a, .i b => ptEq a b
  | _, _ => false
theorem ptEq_refl : ∀ p, ptEq p p = true
  | .h => rfl
  | .o p => ptEq_refl p
  | .i p => ptEq_refl p
def optT : Opd → List Pt → List Pt
  | .t p, l => p :: l
  | .c _, l => l
def HOp.tmps (h : HOp) : List Pt := h.opds.foldr optT []
def HR.readsL (h : HR) : List Pt := match h.guard with | some (p, _) => p :: h.op.tmps | none => h.op.tmps
def ptIn (p : Pt) : List Pt → Bool
  | [] => false
  | q :: l => ptEq p q || ptIn p l
def writes (d : Option Pt) (l : List Pt) : Bool := match d with | some p => ptIn p l | none => false
def sameD : Option Pt → Option Pt → Bool
  | some p, some q => ptEq p q
  | _, _ => false
def clashB (a b : HR) : Bool := writes a.dst b.readsL || sameD a.dst b.dst || writes b.dst a.readsL

theorem ptIn_of_mem {p : Pt} : ∀ {l : List Pt}, p ∈ l → ptIn p l = true := by
  intro l
  induction l with
  | nil => intro h; cases h
  | cons q l ih =>
    intro h
    simp only [ptIn, Bool.or_eq_true]
    rcases List.mem_cons.1 h with e | e
    · subst e; exact .inl (ptEq_refl _)
    · exact .inr (ih e)
theorem mem_tmps {h : HOp} {p : Pt} (hp : Opd.t p ∈ h.opds) : p ∈ h.tmps := by
  unfold HOp.tmps
  generalize h.opds = l at hp
  induction l with
  | nil => cases hp
  | cons x l ih =>
    simp only [List.foldr_cons]
    rcases List.mem_cons.1 hp with e | e
    · subst e; exact List.mem_cons_self
    · cases x with
      | t q => exact List.mem_cons_of_mem _ (ih e)
      | c v => exact ih e
theorem mem_readsL {h : HR} {p : Pt} (hp : h.reads p) : p ∈ h.readsL := by
  unfold HR.readsL
  rcases hp with ⟨b, hb⟩ | hp
  · rw [hb]; exact List.mem_cons_self
  · cases hg : h.guard with
    | none => exact mem_tmps hp
    | some pb => exact List.mem_cons_of_mem _ (mem_tmps hp)
theorem clashB_of {a b : HR} (h : Clash a b) : clashB a b = true := by
  unfold clashB
  simp only [Bool.or_eq_true]
  rcases h with ⟨p, h1, h2 | h2⟩ | ⟨p, h1, h2⟩
  · left; left; rw [h1]; exact ptIn_of_mem (mem_readsL h2)
  · left; right; rw [h1, h2]; exact ptEq_refl _
  · right; rw [h1]; exact ptIn_of_mem (mem_readsL h2)

def tb (m i : Nat) : Bool := Nat.beq (Nat.land (Nat.shiftRight m i) 1) 1
theorem tb_eq (m i : Nat) : tb m i = Nat.testBit m i := by
  unfold tb Nat.testBit
  have : Nat.land (m.shiftRight i) 1 = 1 &&& (m >>> i) := by rw [Nat.and_comm]; rfl
  rw [this]
  have h2 : 1 &&& (m >>> i) = (m >>> i) % 2 := Nat.one_and_eq_mod_two _
  rw [h2]
  rcases Nat.mod_two_eq_zero_or_one (m >>> i) with h | h <;> rw [h] <;> rfl
def maskE (ms : List Nat) : List Edge → Nat
  | [] => 0
  | e :: l => bif Region.binds .any e then Nat.lor (Nat.lor (maskE ms l) (Nat.shiftLeft 1 e.on)) (ms.getD e.on 0) else maskE ms l
def masks : List Oper → List Nat → List Nat
  | [], ms => ms
  | o :: os, ms => masks os (ms ++ [maskE ms o.after.toList])
def fwdE (j : Nat) : List Edge → Bool
  | [] => true
  | e :: l => (bif Region.binds .any e then Nat.blt e.on j else true) && fwdE j l
def fwdOps : Nat → List Oper → Bool
  | _, [] => true
  | j, o :: l => fwdE j o.after.toList && fwdOps (j + 1) l

theorem fwdE_spec {j : Nat} : ∀ {l : List Edge}, fwdE j l = true → ∀ e ∈ l, Region.binds .any e = true → e.on < j := by
  intro l
  induction l with
  | nil => intro _ e h; cases h
  | cons x l ih =>
    intro h e he hb
    simp only [fwdE, Bool.and_eq_true] at h
    rcases List.mem_cons.1 he with r | r
    · subst r; rw [hb] at h; exact Nat.le_of_ble_eq_true h.1
    · exact ih h.2 e r hb
theorem fwdOps_spec : ∀ {l : List Oper} {j : Nat}, fwdOps j l = true → ∀ i o, l[i]? = some o → ∀ e ∈ o.after, Region.binds .any e = true → e.on < j + i := by
  intro l
  induction l with
  | nil => intro j _ i o h; simp at h
  | cons x l ih =>
    intro j h i o ho e he hb
    simp only [fwdOps, Bool.and_eq_true] at h
    cases i with
    | zero => simp at ho; subst ho; exact fwdE_spec h.1 e (Array.mem_toList_iff.2 he) hb
    | succ i => have := ih h.2 i o (by simpa using ho) e he hb; omega
theorem Bef.lt {ops : Array Oper} (h : fwdOps 0 ops.toList = true) {i j : Nat} (hb : Bef ops i j) : i < j := by
  have hs := fwdOps_spec h
  induction hb with
  | edge h1 h2 h3 => have := hs _ _ (by simpa using h1) _ h2 h3; omega
  | step _ h1 h2 h3 ih => have := hs _ _ (by simpa using h1) _ h2 h3; omega

theorem maskE_spec {ops : Array Oper} {ms : List Nat} {j : Nat} {o : Oper} (hj : ops[j]? = some o) (hms : ∀ k i, Nat.testBit (ms.getD k 0) i = true → Bef ops i k) :
    ∀ {l : List Edge}, (∀ e ∈ l, e ∈ o.after) → ∀ i, Nat.testBit (maskE ms l) i = true → Bef ops i j := by
  intro l
  induction l with
  | nil => intro _ i h; simp [maskE] at h
  | cons e l ih =>
    intro hl i h
    simp only [maskE] at h
    cases hb : Region.binds .any e with
    | false => rw [hb] at h; exact ih (fun e he => hl e (List.mem_cons_of_mem _ he)) i h
    | true =>
      rw [hb] at h
      simp only [cond_true] at h
      have h' : Nat.testBit ((maskE ms l ||| (1 <<< e.on)) ||| ms.getD e.on 0) i = true := h
      rw [Nat.testBit_or, Nat.testBit_or, Bool.or_eq_true, Bool.or_eq_true] at h'
      rcases h' with (h1 | h1) | h1
      · exact ih (fun e he => hl e (List.mem_cons_of_mem _ he)) i h1
      · rw [Nat.testBit_shiftLeft] at h1
        simp only [Bool.and_eq_true, decide_eq_true_eq] at h1
        have : i = e.on := by
          have h2 := h1.2
          rcases Nat.lt_or_ge (i - e.on) 1 with h3 | h3
          · omega
          · obtain ⟨k, hk⟩ : ∃ k, i - e.on = k + 1 := ⟨i - e.on - 1, by omega⟩
            rw [hk, Nat.testBit_succ] at h2; simp at h2
        rw [this]
        exact .edge hj (hl e List.mem_cons_self) hb
      · exact .step (hms _ _ h1) hj (hl e List.mem_cons_self) hb
theorem masks_spec {ops : Array Oper} : ∀ {l : List Oper} {ms : List Nat}, (∀ k, ops[ms.length + k]? = l[k]?) → (∀ k i, Nat.testBit (ms.getD k 0) i = true → Bef ops i k) → ∀ k i, Nat.testBit ((masks l ms).getD k 0) i = true → Bef ops i k := by
  intro l
  induction l with
  | nil => intro ms _ h; exact h
  | cons o l ih =>
    intro ms hg h
    simp only [masks]
    refine ih (fun k => ?_) (fun k i hk => ?_)
    · have := hg (k + 1)
      rw [List.length_append]
      simp only [List.length_cons, List.length_nil]
      rw [show ms.length + (0 + 1) + k = ms.length + (k + 1) by omega, this]; simp
    · rcases Nat.lt_trichotomy k ms.length with h1 | h1 | h1
      · rw [List.getD_eq_getElem?_getD, List.getElem?_append_left h1, ← List.getD_eq_getElem?_getD] at hk; exact h k i hk
      · subst h1
        simp only [List.getD_eq_getElem?_getD, List.getElem?_append_right (Nat.le_refl _), Nat.sub_self, List.getElem?_cons_zero, Option.getD_some] at hk
        exact maskE_spec (by simpa using hg 0) h (fun e he => Array.mem_toList_iff.1 he) i hk
      · rw [List.getD_eq_getElem?_getD, List.getElem?_eq_none (by simp; omega)] at hk; simp at hk

def chk1 (m : Nat) (hj : HR) : Nat → List HR → Bool
  | _, [] => true
  | i, hi :: r => (tb m i || !(clashB hi hj || (hi.op.isEff && hj.op.isEff))) && chk1 m hj (i + 1) r
def chkAll (hs : List HR) (ms : List Nat) : Nat → List HR → Bool
  | _, [] => true
  | j, hj :: r => chk1 (ms.getD j 0) hj 0 (hs.take j) && chkAll hs ms (j + 1) r
def prs1 (ms : List Nat) (i mi : Nat) : Nat → List HR → List (Nat × Nat)
  | _, [] => []
  | j, hj :: r => bif hj.op.isEff && !(tb (ms.getD j 0) i || tb mi j) then (i, j) :: prs1 ms i mi (j + 1) r else prs1 ms i mi (j + 1) r
def prs (hs : List HR) (ms : List Nat) : Nat → List HR → List (Nat × Nat)
  | _, [] => []
  | i, hi :: r => bif hi.op.isRd then prs1 ms i (ms.getD i 0) 0 hs ++ prs hs ms (i + 1) r else prs hs ms (i + 1) r

theorem chk1_spec {m : Nat} {hj : HR} : ∀ {l : List HR} {i0 : Nat}, chk1 m hj i0 l = true → ∀ i hi, l[i]? = some hi → clashB hi hj = true ∨ (hi.op.isEff = true ∧ hj.op.isEff = true) → Nat.testBit m (i0 + i) = true := by
  intro l
  induction l with
  | nil => intro i0 _ i hi h; simp at h
  | cons x l ih =>
    intro i0 h i hi hg hc
    simp only [chk1, Bool.and_eq_true, tb_eq] at h
    cases i with
    | zero =>
      simp at hg; subst hg
      rcases hc with hc | hc <;> simp [hc] at h <;> exact h.1
    | succ i => have := ih h.2 i hi (by simpa using hg) hc; rwa [show i0 + (i + 1) = i0 + 1 + i by omega]
theorem chkAll_spec {hs : List HR} {ms : List Nat} : ∀ {l : List HR} {j0 : Nat}, chkAll hs ms j0 l = true → ∀ j hj, l[j]? = some hj → ∀ i hi, i < j0 + j → hs[i]? = some hi → clashB hi hj = true ∨ (hi.op.isEff = true ∧ hj.op.isEff = true) → Nat.testBit (ms.getD (j0 + j) 0) i = true := by
  intro l
  induction l with
  | nil => intro j0 _ j hj h; simp at h
  | cons x l ih =>
    intro j0 h j hj hg i hi hlt hgi hc
    simp only [chkAll, Bool.and_eq_true] at h
    cases j with
    | zero =>
      simp at hg; subst hg
      have := chk1_spec h.1 i hi (by rw [List.getElem?_take, if_pos (by simpa using hlt)]; exact hgi) hc
      simpa using this
    | succ j => have := ih h.2 j hj (by simpa using hg) i hi (by omega) hgi hc; rwa [show j0 + (j + 1) = j0 + 1 + j by omega]
theorem prs1_spec {ms : List Nat} {i mi : Nat} : ∀ {l : List HR} {j0 : Nat} (j : Nat) (hj : HR), l[j]? = some hj → hj.op.isEff = true → Nat.testBit (ms.getD (j0 + j) 0) i = true ∨ Nat.testBit mi (j0 + j) = true ∨ (i, j0 + j) ∈ prs1 ms i mi j0 l := by
  intro l
  induction l with
  | nil => intro j0 j hj h; simp at h
  | cons x l ih =>
    intro j0 j hj hg he
    simp only [prs1, tb_eq]
    cases j with
    | zero =>
      simp at hg; subst hg
      simp only [he, Nat.add_zero, Bool.true_and]
      cases h1 : (ms.getD j0 0).testBit i with
      | true => exact .inl rfl
      | false =>
        cases h2 : mi.testBit j0 with
        | true => exact .inr (.inl rfl)
        | false => right; right; simp
    | succ j =>
      have := ih (j0 := j0 + 1) j hj (by simpa using hg) he
      rw [show j0 + (j + 1) = j0 + 1 + j by omega]
      rcases this with h | h | h
      · exact .inl h
      · exact .inr (.inl h)
      · right; right
        cases (x.op.isEff && !((ms.getD j0 0).testBit i || mi.testBit j0)) with
        | true => exact List.mem_cons_of_mem _ h
        | false => exact h
theorem prs_spec {hs : List HR} {ms : List Nat} : ∀ {l : List HR} {i0 : Nat} (i : Nat) (hi : HR), l[i]? = some hi → hi.op.isRd = true → ∀ (j : Nat) (hj : HR), hs[j]? = some hj → hj.op.isEff = true →
    Nat.testBit (ms.getD j 0) (i0 + i) = true ∨ Nat.testBit (ms.getD (i0 + i) 0) j = true ∨ (i0 + i, j) ∈ prs hs ms i0 l := by
  intro l
  induction l with
  | nil => intro i0 i hi h; simp at h
  | cons x l ih =>
    intro i0 i hi hg hr j hj hgj he
    simp only [prs]
    cases i with
    | zero =>
      simp at hg; subst hg
      simp only [hr, cond_true, Nat.add_zero]
      have := prs1_spec (ms := ms) (i := i0) (mi := ms.getD i0 0) (j0 := 0) j hj hgj he
      rw [Nat.zero_add] at this
      rcases this with h | h | h
      · exact .inl h
      · exact .inr (.inl h)
      · exact .inr (.inr (List.mem_append_left _ h))
    | succ i =>
      have := ih (i0 := i0 + 1) i hi (by simpa using hg) hr j hj hgj he
      rw [show i0 + (i + 1) = i0 + 1 + i by omega]
      rcases this with h | h | h
      · exact .inl h
      · exact .inr (.inl h)
      · right; right
        cases x.op.isRd with
        | true => exact List.mem_append_right _ h
        | false => exact h

def drawChk (ops : Array Oper) (hs : List HR) (ms : List Nat) : Bool := fwdOps 0 ops.toList && chkAll hs ms 0 hs
theorem drawOK_of {ops : Array Oper} {hs : List HR} (h : drawChk ops hs (masks ops.toList []) = true) : DrawOK ops hs (prs hs (masks ops.toList []) 0 hs) := by
  unfold drawChk at h
  simp only [Bool.and_eq_true] at h
  have hm : ∀ k i, Nat.testBit ((masks ops.toList []).getD k 0) i = true → Bef ops i k := masks_spec (fun k => by simp) (fun k i h => by simp at h)
  refine ⟨fun i j hb => hb.lt h.1, fun i j hi hj h1 h2 h3 h4 => ?_, fun i j hi hj h1 h2 h3 h4 h5 => ?_, fun i j hi hj h1 h2 h3 h4 => ?_⟩
  · have := chkAll_spec h.2 j hj h2 i hi (by omega) h1 (.inl (clashB_of h4))
    rw [Nat.zero_add] at this; exact hm _ _ this
  · have := chkAll_spec h.2 j hj h2 i hi (by omega) h1 (.inr ⟨h4, h5⟩)
    rw [Nat.zero_add] at this; exact hm _ _ this
  · have := prs_spec (hs := hs) (ms := masks ops.toList []) (i0 := 0) i hi h1 h3 j hj h2 h4
    rw [Nat.zero_add] at this
    rcases this with h | h | h
    · exact .inl (hm _ _ h)
    · exact .inr (.inl (hm _ _ h))
    · exact .inr (.inr h)

section
variable (P : Program) (R G N : Nat)
noncomputable def cD (ops : Array Oper) (hs : List HR) (ms : List Nat) : HC := bif drawChk ops hs ms then .draws hs (prs hs ms 0 hs) else .bad
noncomputable def cC : Code → HC
  | .skip => .skip
  | .region _ ops d => (match cRs P R G N ops ops.toList with
    | some hs => bif d then cD ops hs (masks ops.toList []) else .region hs
    | none => .bad)
  | .seq a b => .seq (cC a) (cC b)
  | .cond c a b => (match cOpd G N c with | some c' => .cond c' (cC a) (cC b) | none => .bad)
  | .block id b => .block id (cC b)
  | .loop b => .loop (cC b)
  | .exit id => .exit id
  | .ret => .ret
  | _ => .bad
noncomputable def cRes : ResultVar → Option HRes
  | .tmp t => bif Nat.blt t N then some (.t (Pt.ofNat t)) else none
  | .cell a t => bif Nat.blt a N then (match P.underlying t with
    | some d => bif isAggB d then (match P.info? t with | some ti => some (.cell (Pt.ofNat a) true ti.size) | none => none) else some (.cell (Pt.ofNat a) false 1)
    | none => none) else none
noncomputable def cRess : List ResultVar → Option (List HRes)
  | [] => some []
  | r :: l => match cRes P N r, cRess l with | some h, some t => some (h :: t) | _, _ => none
end
section
variable (P : Program) (R G : Nat) (fi sz : Nat)
noncomputable def cPut (g : Nat) : Option (Nat × HC) :=
  match P.funcs[g]? with
  | some fn => (match fn.body with
    | some c => bif !(fn.name == "runtime.NumGoroutine") && fn.results.isEmpty then some (fn.ntmps, cC P R G fn.ntmps c) else none
    | none => none)
  | none => none
noncomputable def cDfr1 (N : Nat) (ops : Array Oper) (l : List Oper) (od : Oper) : Option (List HR × Nat × HC × List Opd) :=
  match od.op, od.guard, od.dst with
  | .defer c, none, none => (match c.callee with
    | .value (.func g) => (match cRs P R G N ops l, cOpds G N c.args.toList, cPut P R G g with
      | some hs, some xs, some p => some (hs, p.1, p.2, xs)
      | _, _, _ => none)
    | _ => none)
  | _, _, _ => none
def cutLast : List Oper → Option (List Oper × Oper)
  | [] => none
  | [o] => some ([], o)
  | o :: l => match cutLast l with | some (l', x) => some (o :: l', x) | none => none
noncomputable def cDfr (N : Nat) : Code → Option (List HR × Nat × HC × List Opd)
  | .region _ ops false => (match cutLast ops.toList with | some (l, od) => cDfr1 P R G N ops l od | none => none)
  | _ => none
noncomputable def cChunk (N : Nat) (g : Operand) (ps : List Tmp) (asg body : Code) : HB :=
  match cOpd G N g, ps with
  | some g', [t] => .chunk sz fi g' (Pt.ofNat t) (cC P R G N asg) (cC P R G N body)
  | _, _ => .code .bad
noncomputable def cB (N : Nat) : Code → HB
  | .seq a b => (match cDfr P R G N a with | some (hs, nt, h, xs) => .dfr hs nt h xs (cC P R G N b) | none => .seq (cC P R G N a) (cB N b))
  | .block _ (.rangeFunc g ps asg body) => cChunk P R G fi sz N g ps.toList asg body
  | c => .code (cC P R G N c)
noncomputable def cF (fn : Func) : Option HF :=
  match fn.body with
  | some c => (match cRess P fn.ntmps fn.results.toList with
    | some r => some ⟨fn.ntmps, cB P R G fi sz fn.ntmps c, r⟩
    | none => none)
  | none => none
end

theorem cC_ok {P : Program} {R G N : Nat} (hG : G ≤ R) (hmix : P.follows .mixedOrders = true) : ∀ (c : Code), CodeOK P R G N c (cC P R G N c) := by
  intro c
  induction c with
  | skip => exact .skip
  | region id ops d =>
    simp only [cC]
    split
    · rename_i hs hhs
      have hreg := cRs_ok (i := 0) hhs (fun j => by simp)
      cases d with
      | false => exact .region hreg
      | true =>
        simp only [cD, cond_true]
        cases hb : drawChk ops hs (masks ops.toList []) with
        | false => exact .bad
        | true => exact draws_sound hG hmix hreg (drawOK_of hb)
    · exact .bad
  | seq a b iha ihb => simp only [cC]; exact .seq iha ihb
  | cond c a b iha ihb =>
    simp only [cC]
    split
    · rename_i c' h0; exact .cond h0 iha ihb
    · exact .bad
  | block id b ih => simp only [cC]; exact .block ih
  | loop b ih => simp only [cC]; exact .loop ih
  | exit id => simp only [cC]; exact .exit
  | ret => simp only [cC]; exact .ret
  | _ => exact .bad

theorem cRes_ok {P : Program} {N : Nat} {r : ResultVar} {h : HRes} (hc : cRes P N r = some h) : ResOK P N r h := by
  cases r with
  | tmp t =>
    simp only [cRes] at hc
    cases hb : Nat.blt t N with
    | false => rw [hb] at hc; cases hc
    | true => rw [hb] at hc; cases hc; exact .t (Nat.le_of_ble_eq_true hb)
  | cell a t =>
    simp only [cRes] at hc
    cases hb : Nat.blt a N with
    | false => rw [hb] at hc; cases hc
    | true =>
      rw [hb] at hc
      simp only [cond_true] at hc
      split at hc
      · rename_i d hd
        cases hag : isAggB d with
        | false => rw [hag] at hc; cases hc; exact .cell1 (Nat.le_of_ble_eq_true hb) hd hag
        | true =>
          rw [hag] at hc
          simp only [cond_true] at hc
          split at hc
          · rename_i ti hti; cases hc; exact .cellN (Nat.le_of_ble_eq_true hb) hd hag hti
          · cases hc
      · cases hc
theorem cRess_ok {P : Program} {N : Nat} : ∀ {l : List ResultVar} {h : List HRes}, cRess P N l = some h → RessOK P N l h := by
  intro l
  induction l with
  | nil => intro h hc; simp only [cRess] at hc; cases hc; exact .nil
  | cons r l ih =>
    intro h hc
    simp only [cRess] at hc
    split at hc
    · rename_i a b h1 h2; cases hc; exact .cons (cRes_ok h1) (ih h2)
    · cases hc
theorem cRs_okP {P : Program} {R G N : Nat} {ops : Array Oper} : ∀ {l : List Oper} {i : Nat} {hs : List HR}, cRs P R G N ops l = some hs → (∀ j o, l[j]? = some o → ops[i + j]? = some o) → RegP P R G N ops i hs ∧ hs.length = l.length := by
  intro l
  induction l with
  | nil => intro i hs h _; simp only [cRs] at h; cases h; exact ⟨.nil, rfl⟩
  | cons o l ih =>
    intro i hs h hg
    simp only [cRs] at h
    split at h
    · rename_i hr r h1 h2
      cases h
      obtain ⟨a, b⟩ := ih h2 (i := i + 1) fun j o' hj => by have := hg (j + 1) o' (by simpa using hj); rwa [show i + (j + 1) = i + 1 + j by omega] at this
      exact ⟨.cons (hg 0 o rfl) (cR_ok h1) a, by simp [b]⟩
    · cases h
theorem cutLast_spec : ∀ {l l' : List Oper} {x : Oper}, cutLast l = some (l', x) → l = l' ++ [x] := by
  intro l
  induction l with
  | nil => intro l' x h; cases h
  | cons o l ih =>
    intro l' x h
    cases l with
    | nil => simp only [cutLast] at h; cases h; rfl
    | cons o2 l =>
      simp only [cutLast] at h
      split at h
      · rename_i l2 x2 h2
        cases h
        rw [ih h2]; rfl
      · cases h
theorem cPut_ok {P : Program} {R G : Nat} (hG : G ≤ R) (hmix : P.follows .mixedOrders = true) {g nt : Nat} {h : HC} (hc : cPut P R G g = some (nt, h)) : PutOff P R G g nt h := by
  unfold cPut at hc
  split at hc
  · rename_i fn hfn
    split at hc
    · rename_i c hb
      cases hq : (!(fn.name == "runtime.NumGoroutine") && fn.results.isEmpty) with
      | false => rw [hq] at hc; cases hc
      | true =>
        rw [hq] at hc
        cases hc
        simp only [Bool.and_eq_true, Bool.not_eq_true', beq_eq_false_iff_ne] at hq
        exact ⟨fn, c, hfn, hq.1, rfl, by simpa using hq.2, hb, cC_ok hG hmix c⟩
    · cases hc
  · cases hc
theorem cB_ok {P : Program} {R G fi sz N : Nat} (hG : G ≤ R) (hmix : P.follows .mixedOrders = true) (hch : ChunkFn P R G fi sz) : ∀ (c : Code), BodyOK P R G N c (cB P R G fi sz N c) := by
  intro c
  induction c with
  | seq a b iha ihb =>
    simp only [cB]
    split
    · rename_i hs nt h xs hd
      unfold cDfr at hd
      split at hd
      · rename_i id ops
        split at hd
        · rename_i l od hl
          unfold cDfr1 at hd
          split at hd
          · rename_i cc ho hgd hdst
            split at hd
            · rename_i g hcal
              split at hd
              · rename_i hs' xs' p e1 e2 e3
                cases hd
                have hops := cutLast_spec hl
                have hsz : ops.size = l.length + 1 := by rw [← Array.length_toList, hops]; simp
                have hget : ∀ j, ops[j]? = (l ++ [od])[j]? := fun j => by rw [← hops, Array.getElem?_toList]
                obtain ⟨q1, q2⟩ := cRs_okP (i := 0) e1 (fun j o hj => by
                  rw [Nat.zero_add, hget, List.getElem?_append_left (List.getElem?_eq_some_iff.1 hj).1]; exact hj)
                obtain ⟨callee, args, ats⟩ := cc
                simp only at hcal e2
                subst hcal
                exact .dfr (by rw [q2]; exact hsz) q1 (by rw [hget, q2]; simp) ho hgd hdst e2 (cPut_ok hG hmix e3) (cC_ok hG hmix b)
              · cases hd
            · cases hd
          · cases hd
        · cases hd
      · cases hd
    · exact .seq (cC_ok hG hmix a) ihb
  | block id b ih =>
    cases b with
    | rangeFunc g ps asg body =>
      simp only [cB, cChunk]
      split
      · rename_i g' t hg hps
        have : ps = #[t] := by apply Array.ext'; simpa using hps
        subst this
        exact .chunk hch hg (cC_ok hG hmix asg) (cC_ok hG hmix body)
      · exact .code .bad
    | _ => exact .code (cC_ok hG hmix _)
  | _ => exact .code (cC_ok hG hmix _)
theorem cF_ok {P : Program} {R G fi sz : Nat} (hG : G ≤ R) (hmix : P.follows .mixedOrders = true) (hch : ChunkFn P R G fi sz) {fn : Func} {h : HF} (hn : fn.name ≠ "runtime.NumGoroutine") (hc : cF P R G fi sz fn = some h) : FnOK P R G fn h := by
  unfold cF at hc
  split at hc
  · rename_i c hb
    split at hc
    · rename_i r h2
      cases hc
      exact ⟨rfl, hn, ⟨c, hb, cB_ok hG hmix hch c⟩, cRess_ok h2⟩
    · cases hc
  · cases hc
end Go.HM
