import Derived.Test.YtdhcabbngddboaaGreatDoorHmD
set_option linter.unusedVariables false
set_option linter.unusedSimpArgs false
namespace Go.HM

section
variable {P : Program} {o : Oper} {t : TypeId} {x y : Operand} {yt : TypeId}

theorem bShl_ok (ho : o.op = .binOp .shl t x y yt) : PureOK P o (f2 bShl) := by
  intro ρ w e l v hl hv
  have hl' : VRs ρ l [e x, e y] := by simpa [Op.operands, ho] using hl
  obtain ⟨a, b, rfl, ha, hb⟩ := hl'.two
  simp only [f2, bShl] at hv
  split at hv
  · rename_i k i j n
    cases hv
    generalize hx : e x = ex at ha
    generalize hy : e y = ey at hb
    cases ha; cases hb
    refine ⟨_, run_bin ho e (by rw [hx, hy]; exact eqGuard_ints _ _ _ _ _ _ _ _) ?_, .int _ _⟩
    rw [hx, hy]
    have hn : ¬ ((Int.ofNat n) < 0) := by simp
    show (Op.shift .shl k i j (Int.ofNat n)).run P w = _
    simp only [Op.shift, hn, if_false, wrapQ_eq, Sem.run_pure]
    have e1 : (Int.ofNat n).toNat = n := rfl
    rw [e1]
    simp only [Result.ok.injEq, Value.int.injEq, true_and, and_true]
    rfl
  · cases hv
theorem bShr_ok (ho : o.op = .binOp .shr t x y yt) : PureOK P o (f2 bShr) := by
  intro ρ w e l v hl hv
  have hl' : VRs ρ l [e x, e y] := by simpa [Op.operands, ho] using hl
  obtain ⟨a, b, rfl, ha, hb⟩ := hl'.two
  simp only [f2, bShr] at hv
  split at hv
  · rename_i k i j n
    cases hv
    generalize hx : e x = ex at ha
    generalize hy : e y = ey at hb
    cases ha; cases hb
    refine ⟨_, run_bin ho e (by rw [hx, hy]; exact eqGuard_ints _ _ _ _ _ _ _ _) ?_, .int _ _⟩
    rw [hx, hy]
    have hn : ¬ ((Int.ofNat n) < 0) := by simp
    show (Op.shift .shr k i j (Int.ofNat n)).run P w = _
    simp only [Op.shift, hn, if_false, Sem.run_pure]
    have e1 : (Int.ofNat n).toNat = n := rfl
    rw [e1]
    simp only [Result.ok.injEq, Value.int.injEq, true_and, and_true]
    rfl
  · cases hv

/-- what an equation of values that are neither numbers nor texts comes to -/
theorem run_eqn {w : World} {op : BinOp} (hop : op = .eql ∨ op = .neq) {a b : Value} {r : Bool} (hs : binOp .eql t a b = (do pure (.bool (← Op.equal t a b))) ∧ binOp .neq t a b = (do pure (.bool (!(← Op.equal t a b)))))
    (h : ∀ d, (Op.equalIn (d + 1) t a b).run P w = .ok r w) : (binOp op t a b).run P w = .ok (.bool (bif (op == .neq) then !r else r)) w := by
  have h' : (Op.equal t a b).run P w = .ok r w := h 9999
  rcases hop with rfl | rfl
  · rw [hs.1]; simp only [Sem.run_bind, h', Result.andThen_ok, Sem.run_pure]; rfl
  · rw [hs.2]; simp only [Sem.run_bind, h', Result.andThen_ok, Sem.run_pure]; rfl

end

/-! ### equality -/
inductive EqK | int | str | bool | ptr | slice | map

def eqK : EqK → Value → Value → Option Bool
  | .int, .int k a, .int j b => bif beqK k j then some (beqInt a b) else none
  | .str, .string a, .string b => some (beqBytes a.data.toList b.data.toList)
  | .bool, .bool a, .bool b => some (a == b)
  | .ptr, .pointer none, .pointer b => some b.isNone
  | .ptr, .pointer (some _), .pointer none => some false
  | .slice, .slice none _ _, .slice b _ _ => some b.isNone
  | .slice, .slice (some _) _ _, .slice none _ _ => some false
  | .map, .map none, .map b => some b.isNone
  | .map, .map (some _), .map none => some false
  | _, _, _ => none
def eqKOf : TypeDesc → Option EqK
  | .int _ => some .int | .string => some .str | .bool => some .bool | .pointer _ => some .ptr | .slice _ => some .slice | .map _ _ => some .map
  | _ => none
def bEqK (q : EqK) (neg : Bool) : F2 := fun x y => match eqK q x y with | some b => some (.bool (bif neg then !b else b)) | none => none

theorem eqK_VR {ρ : Rho} {q : EqK} {a b a' b' : Value} {r : Bool} (ha : VR ρ a a') (hb : VR ρ b b') (h : eqK q a b = some r) : eqK q a' b' = some r := by
  cases ha <;> cases hb <;> cases q <;> first | exact h | (simp [eqK] at h ⊢; first | exact h | done)

theorem bEqK_ok {P : Program} {o : Oper} {t : TypeId} {x y : Operand} {yt : TypeId} {op : BinOp} (hop : op = .eql ∨ op = .neq) (ho : o.op = .binOp op t x y yt) {d : TypeDesc} (hd : P.underlying t = some d) {q : EqK} (hq : eqKOf d = some q) :
    PureOK P o (f2 (bEqK q (op == .neq))) := by
  intro ρ w e l v hl hv
  have hl' : VRs ρ l [e x, e y] := by simpa [Op.operands, ho] using hl
  obtain ⟨a, b, rfl, ha, hb⟩ := hl'.two
  simp only [f2, bEqK] at hv
  split at hv
  · rename_i r hr
    cases hv
    have hr' := eqK_VR ha hb hr
    refine ⟨_, ?_, .bool _⟩
    generalize hx : e x = ex at ha hr'
    generalize hy : e y = ey at hb hr'
    have hu : (underlying t).run P w = .ok d w := run_und hd
    have key : (eqGuard op t x y ex ey).run P w = .ok () w ∧ (binOp op t ex ey).run P w = .ok (.bool (bif (op == .neq) then !r else r)) w := by
      unfold eqK at hr'
      split at hr'
      · rename_i k i j n
        cases hk : beqK k j with
        | false => rw [hk] at hr'; simp at hr'
        | true =>
          rw [hk] at hr'; cases hr'
          have := beqK_iff.1 hk; subst this
          refine ⟨eqGuard_ints _ _ _ _ _ _ _ _, ?_⟩
          rcases hop with rfl | rfl <;> simp [binOp, Op.intCmp, beqInt_eq, bne] <;> rfl
      · cases hr'
        refine ⟨eqGuard_strs _ _ _ _ _ _, ?_⟩
        rcases hop with rfl | rfl <;> simp [binOp, Op.stringOp, beqBytes_eq] <;> rfl
      all_goals
        cases d <;> first | (simp [eqKOf] at hq; done) | (simp at hr'; done) | (cases hr'; exact ⟨by rcases hop with rfl | rfl <;> rfl, run_eqn hop ⟨rfl, rfl⟩ (fun d => by simp [Op.equalIn, hu])⟩)
    exact run_bin ho e (by rw [hx, hy]; exact key.1) (by rw [hx, hy]; exact key.2)
  · cases hv

/-- an interface value held against nil -/
def bEqI (c : Bool) (neg : Bool) : F2
  | .nilIface, .nilIface => bif c then some (.bool (!neg)) else none
  | .iface _ _, .nilIface => some (.bool neg)
  | .nilIface, .iface _ _ => some (.bool neg)
  | _, _ => none
def isC : Operand → Bool | .const _ => true | _ => false
theorem bEqI_ok {P : Program} {o : Oper} {t : TypeId} {x y : Operand} {yt : TypeId} {op : BinOp} (hop : op = .eql ∨ op = .neq) (ho : o.op = .binOp op t x y yt) {ms : Array (String × TypeId)} (hd : P.underlying t = some (.interface ms))
    : PureOK P o (f2 (bEqI (isC x || isC y) (op == .neq))) := by
  intro ρ w e l v hl hv
  have hl' : VRs ρ l [e x, e y] := by simpa [Op.operands, ho] using hl
  obtain ⟨a, b, rfl, ha, hb⟩ := hl'.two
  have hu : (underlying t).run P w = .ok (.interface ms) w := run_und hd
  simp only [f2, bEqI] at hv
  have key : ∀ (ex ey : Value) (r : Bool), e x = ex → e y = ey → (eqGuard op t x y ex ey).run P w = .ok () w → (∀ d, (Op.equalIn (d + 1) t ex ey).run P w = .ok r w) →
      binOp .eql t ex ey = (do pure (.bool (← Op.equal t ex ey))) ∧ binOp .neq t ex ey = (do pure (.bool (!(← Op.equal t ex ey)))) → (execOp e o).run P w = .ok (.value (.bool (bif (op == .neq) then !r else r))) w := by
    intro ex ey r hx hy hg hr hb
    exact run_bin ho e (by rw [hx, hy]; exact hg) (by rw [hx, hy]; exact run_eqn hop hb hr)
  generalize hx : e x = ex at ha
  generalize hy : e y = ey at hb
  split at hv
  rotate_left
  · cases hv
    cases ha; cases hb
    refine ⟨_, (key _ _ false hx hy ?_ (fun d => by simp [Op.equalIn, hu]) ⟨rfl, rfl⟩).trans ?_, .bool _⟩
    · rcases hop with rfl | rfl <;> rfl
    · rcases hop with rfl | rfl <;> rfl
  · cases hv
    cases ha; cases hb
    refine ⟨_, (key _ _ false hx hy ?_ (fun d => by simp [Op.equalIn, hu]) ⟨rfl, rfl⟩).trans ?_, .bool _⟩
    · rcases hop with rfl | rfl <;> rfl
    · rcases hop with rfl | rfl <;> rfl
  · cases hv
  · cases hc : (isC x || isC y) with
    | false => rw [hc] at hv; cases hv
    | true =>
      rw [hc] at hv; cases hv
      cases ha; cases hb
      refine ⟨_, (key _ _ true hx hy ?_ (fun d => by simp [Op.equalIn, hu]) ⟨rfl, rfl⟩).trans ?_, .bool _⟩
      · rcases hop with rfl | rfl <;> cases x <;> cases y <;> simp [isC] at hc <;> rfl
      · rcases hop with rfl | rfl <;> rfl
/-- a function value held against nil -/
def bEqF (neg : Bool) : F2
  | .nilFunc, .nilFunc => some (.bool (!neg))
  | .func _ _ _, .nilFunc => some (.bool neg)
  | .nilFunc, .func _ _ _ => some (.bool neg)
  | _, _ => none
theorem bEqF_ok {P : Program} {o : Oper} {t : TypeId} {x y : Operand} {yt : TypeId} {op : BinOp} (hop : op = .eql ∨ op = .neq) (ho : o.op = .binOp op t x y yt) {ps rs : Array TypeId} {va : Bool} (hd : P.underlying t = some (.func ps rs va)) :
    PureOK P o (f2 (bEqF (op == .neq))) := by
  intro ρ w e l v hl hv
  have hl' : VRs ρ l [e x, e y] := by simpa [Op.operands, ho] using hl
  obtain ⟨a, b, rfl, ha, hb⟩ := hl'.two
  have hu : (underlying t).run P w = .ok (.func ps rs va) w := run_und hd
  simp only [f2, bEqF] at hv
  have key : ∀ (ex ey : Value) (r : Bool), e x = ex → e y = ey → (eqGuard op t x y ex ey).run P w = .ok () w → (∀ d, (Op.equalIn (d + 1) t ex ey).run P w = .ok r w) →
      binOp .eql t ex ey = (do pure (.bool (← Op.equal t ex ey))) ∧ binOp .neq t ex ey = (do pure (.bool (!(← Op.equal t ex ey)))) → (execOp e o).run P w = .ok (.value (.bool (bif (op == .neq) then !r else r))) w := by
    intro ex ey r hx hy hg hr hb
    exact run_bin ho e (by rw [hx, hy]; exact hg) (by rw [hx, hy]; exact run_eqn hop hb hr)
  generalize hx : e x = ex at ha
  generalize hy : e y = ey at hb
  split at hv <;> cases hv
  · cases ha; cases hb
    refine ⟨_, (key _ _ true hx hy ?_ (fun d => by simp [Op.equalIn, hu]) ⟨rfl, rfl⟩).trans ?_, .bool _⟩ <;> rcases hop with rfl | rfl <;> rfl
  · cases ha; cases hb
    refine ⟨_, (key _ _ false hx hy ?_ (fun d => by simp [Op.equalIn, hu]) ⟨rfl, rfl⟩).trans ?_, .bool _⟩ <;> rcases hop with rfl | rfl <;> rfl
  · cases ha; cases hb
    refine ⟨_, (key _ _ false hx hy ?_ (fun d => by simp [Op.equalIn, hu]) ⟨rfl, rfl⟩).trans ?_, .bool _⟩ <;> rcases hop with rfl | rfl <;> rfl

theorem bCat_ok {P : Program} {o : Oper} {t : TypeId} {x y : Operand} {yt : TypeId} (ho : o.op = .binOp .add t x y yt) : PureOK P o (f2 bCat) := by
  intro ρ w e l v hl hv
  have hl' : VRs ρ l [e x, e y] := by simpa [Op.operands, ho] using hl
  obtain ⟨a, b, rfl, ha, hb⟩ := hl'.two
  simp only [f2, bCat] at hv
  split at hv
  · rename_i s u
    cases hb' : Nat.ble (s.size + u.size) 1000000 with
    | false => rw [hb'] at hv; simp at hv
    | true =>
      rw [hb'] at hv; cases hv
      have hle : s.size + u.size ≤ 1000000 := Nat.le_of_ble_eq_true hb'
      generalize hx : e x = ex at ha
      generalize hy : e y = ey at hb
      cases ha; cases hb
      refine ⟨_, run_bin ho e (by rw [hx, hy]; exact eqGuard_strs _ _ _ _ _ _) ?_, .string _⟩
      rw [hx, hy]
      show (Op.stringOp .add s u).run P w = _
      simp only [Op.stringOp]
      rw [if_neg (by show ¬ _ > (9223372036854775807 : Int); omega)]
      rfl
  · cases hv
theorem bSLt_ok {P : Program} {o : Oper} {t : TypeId} {x y : Operand} {yt : TypeId} (ho : o.op = .binOp .lss t x y yt) : PureOK P o (f2 bSLt) := by
  intro ρ w e l v hl hv
  have hl' : VRs ρ l [e x, e y] := by simpa [Op.operands, ho] using hl
  obtain ⟨a, b, rfl, ha, hb⟩ := hl'.two
  simp only [f2, bSLt] at hv
  split at hv
  · rename_i s u
    cases hv
    generalize hx : e x = ex at ha
    generalize hy : e y = ey at hb
    cases ha; cases hb
    refine ⟨_, run_bin ho e (by rw [hx, hy]; exact eqGuard_strs _ _ _ _ _ _) ?_, .bool _⟩
    rw [hx, hy]
    show (Op.stringOp .lss s u).run P w = _
    simp only [Op.stringOp, ByteArray.toList_eq]
    rfl
  · cases hv

/-! ### one operand -/
section
variable {P : Program} {o : Oper}
theorem move_ok {x : Operand} (ho : o.op = .move x ∨ o.op = .assign x) : PureOK P o (f1 some) := by
  intro ρ w e l v hl hv
  have hl' : VRs ρ l [e x] := by rcases ho with ho | ho <;> simpa [Op.operands, ho] using hl
  obtain ⟨a, rfl, ha⟩ := hl'.one
  cases hv
  exact ⟨e x, by unfold execOp; rcases ho with ho | ho <;> rw [ho] <;> rfl, ha⟩
def vPick : FN
  | [.bool c, a, b] => some (bif c then a else b)
  | _ => none
theorem pick_ok {c x y : Operand} (ho : o.op = .pick c x y) : PureOK P o vPick := by
  intro ρ w e l v hl hv
  have hl' : VRs ρ l [e c, e x, e y] := by simpa [Op.operands, ho] using hl
  obtain ⟨q, a, b, rfl, hq, ha, hb⟩ := hl'.three
  simp only [vPick] at hv
  split at hv
  · rename_i c' a' b' heq
    simp only [List.cons.injEq, and_true] at heq
    obtain ⟨rfl, rfl, rfl⟩ := heq
    cases hv
    generalize hc : e c = ec at hq
    cases hq
    cases c' with
    | true => exact ⟨e x, by unfold execOp; rw [ho]; simp [hc, asBool], ha⟩
    | false => exact ⟨e y, by unfold execOp; rw [ho]; simp [hc, asBool], hb⟩
  · cases hv
def vNot : F1 | .bool b => some (.bool !b) | _ => none
theorem not_ok {x : Operand} {t : TypeId} (ho : o.op = .unOp .not t x) : PureOK P o (f1 vNot) := by
  intro ρ w e l v hl hv
  have hl' : VRs ρ l [e x] := by simpa [Op.operands, ho] using hl
  obtain ⟨a, rfl, ha⟩ := hl'.one
  simp only [f1, vNot] at hv
  split at hv <;> cases hv
  generalize hx : e x = ex at ha
  cases ha
  exact ⟨_, by unfold execOp; rw [ho]; simp only [hx]; rfl, .bool _⟩
def vNeg : F1 | .int k n => some (.int k (wrapQ k (0 - n))) | _ => none
theorem neg_ok {x : Operand} {t : TypeId} (ho : o.op = .unOp .neg t x) : PureOK P o (f1 vNeg) := by
  intro ρ w e l v hl hv
  have hl' : VRs ρ l [e x] := by simpa [Op.operands, ho] using hl
  obtain ⟨a, rfl, ha⟩ := hl'.one
  simp only [f1, vNeg] at hv
  split at hv <;> cases hv
  generalize hx : e x = ex at ha
  cases ha
  exact ⟨_, by unfold execOp; rw [ho]; simp only [hx, wrapQ_eq]; rfl, .int _ _⟩
def vConv (k : IntKind) : F1 | .int _ n => some (.int k (wrapQ k n)) | _ => none
theorem conv_ok {x : Operand} {s t : TypeId} {k k' : IntKind} (ho : o.op = .convert s t x) (hs : P.underlying s = some (.int k')) (ht : P.underlying t = some (.int k)) : PureOK P o (f1 (vConv k)) := by
  intro ρ w e l v hl hv
  have hl' : VRs ρ l [e x] := by simpa [Op.operands, ho] using hl
  obtain ⟨a, rfl, ha⟩ := hl'.one
  simp only [f1, vConv] at hv
  split at hv <;> cases hv
  generalize hx : e x = ex at ha
  cases ha
  refine ⟨_, ?_, .int _ _⟩
  unfold execOp; rw [ho]
  simp [convert, run_und hs, run_und ht, hx, Conv.intToInt, wrapQ_eq]
def vStr : F1 | .string s => some (.string s) | _ => none
theorem convS_ok {x : Operand} {s t : TypeId} (ho : o.op = .convert s t x) (hs : P.underlying s = some .string) (ht : P.underlying t = some .string) : PureOK P o (f1 vStr) := by
  intro ρ w e l v hl hv
  have hl' : VRs ρ l [e x] := by simpa [Op.operands, ho] using hl
  obtain ⟨a, rfl, ha⟩ := hl'.one
  simp only [f1, vStr] at hv
  split at hv <;> cases hv
  generalize hx : e x = ex at ha
  cases ha
  refine ⟨_, ?_, .string _⟩
  unfold execOp; rw [ho]
  simp [convert, run_und hs, run_und ht, hx]
def vNil : F1
  | .pointer (some a) => some (.pointer (some a))
  | .func (.func f) a b => some (.func (.func f) a b)
  | .iface t v => some (.iface t v)
  | _ => none
theorem nilCheck_ok {x : Operand} (ho : o.op = .nilCheck x) : PureOK P o (f1 vNil) := by
  intro ρ w e l v hl hv
  have hl' : VRs ρ l [e x] := by simpa [Op.operands, ho] using hl
  obtain ⟨a, rfl, ha⟩ := hl'.one
  simp only [f1, vNil] at hv
  split at hv <;> cases hv
  all_goals
    generalize hx : e x = ex at ha
    have ha' := ha
    cases ha
    exact ⟨_, by unfold execOp; rw [ho]; simp only [hx]; rfl, ha'⟩
def vIface (t : TypeId) : F1 := fun v => some (.iface t v)
theorem iface_ok {x : Operand} {t : TypeId} {d : TypeDesc} (ho : o.op = .makeInterface t x) (hd : P.underlying t = some d) (hn : ∀ ms, d ≠ .interface ms) : PureOK P o (f1 (vIface t)) := by
  intro ρ w e l v hl hv
  have hl' : VRs ρ l [e x] := by simpa [Op.operands, ho] using hl
  obtain ⟨a, rfl, ha⟩ := hl'.one
  cases hv
  refine ⟨.iface t (e x), ?_, .iface t ha⟩
  unfold execOp; rw [ho]
  simp only [Instr.makeInterface, Sem.run_bind, run_und hd, Result.andThen_ok]
  cases d <;> first | (exact absurd rfl (hn _)) | rfl
def vFld (f : Nat) : F1 | .pointer (some a) => some (.pointer (some ⟨a.block, Nat.add a.off f, none⟩)) | _ => none
theorem add_off {a : Addr} {n : Nat} (h : a.spot = none) : a.add n = ⟨a.block, a.off + n, none⟩ := by
  obtain ⟨b, o, s⟩ := a
  simp only at h; subst h
  unfold Addr.add
  split
  · rename_i h; subst h; rfl
  · rfl
theorem AR.add {ρ : Rho} {a a' : Addr} (h : AR ρ a a') (n : Nat) : AR ρ ⟨a.block, a.off + n, none⟩ (a'.add n) := by
  obtain ⟨h1, h2, st, h3, h4⟩ := h
  rw [add_off h2]
  exact ⟨rfl, rfl, st, h3, fun l e => by obtain ⟨h5, h6⟩ := h4 l e; exact ⟨h5, by simp only; omega⟩⟩
theorem fieldAddr_ok {x : Operand} {s : TypeId} {i : Nat} {fs : Array Field} {fd : Field} {ti : TypeInfo} (ho : o.op = .fieldAddr s x i) (hd : P.underlying s = some (.struct fs)) (hf : fs[i]? = some fd)
    (ht : P.info? fd.type = some ti) (hz : ti.size ≠ 0) : PureOK P o (f1 (vFld fd.offset)) := by
  intro ρ w e l v hl hv
  have hl' : VRs ρ l [e x] := by simpa [Op.operands, ho] using hl
  obtain ⟨a, rfl, ha⟩ := hl'.one
  simp only [f1, vFld] at hv
  split at hv <;> cases hv
  generalize hx : e x = ex at ha
  cases ha with
  | ptr h =>
    refine ⟨_, ?_, .ptr (h.add fd.offset)⟩
    unfold execOp; rw [ho]
    simp [Instr.fieldAt, run_und hd, hf, hx, Instr.sureAddr, fieldPlace, run_szOf ht, hz]
def vIdx (sz : Nat) : F2
  | .slice (some a) n _, .int _ (.ofNat i) => bif Nat.blt i n then some (.pointer (some ⟨a.block, Nat.add a.off (Nat.mul i sz), none⟩)) else none
  | _, _ => none
theorem indexAddr_ok {x y : Operand} {t el : TypeId} {ti : TypeInfo} (ho : o.op = .indexAddr t x y) (hd : P.underlying t = some (.slice el)) (ht : P.info? el = some ti) : PureOK P o (f2 (vIdx ti.size)) := by
  intro ρ w e l v hl hv
  have hl' : VRs ρ l [e x, e y] := by simpa [Op.operands, ho] using hl
  obtain ⟨a, b, rfl, ha, hb⟩ := hl'.two
  simp only [f2, vIdx] at hv
  split at hv
  · rename_i a n c k i
    cases hb' : Nat.blt i n with
    | false => rw [hb'] at hv; simp at hv
    | true =>
      rw [hb'] at hv; cases hv
      have hlt : i < n := Nat.lt_of_succ_le (Nat.le_of_ble_eq_true hb')
      generalize hx : e x = ex at ha
      generalize hy : e y = ey at hb
      cases hb
      cases ha with
      | slice _ h =>
        rename_i a' c'
        obtain ⟨h1, h2, ⟨h3, h4⟩, h5, st, h6, h7⟩ := h
        have har : AR ρ a a' := ⟨h1, h2, st, h6, fun l e => let ⟨p, q, _⟩ := h7 l e (by omega); ⟨p, q⟩⟩
        refine ⟨_, ?_, .ptr (har.add (i * ti.size))⟩
        unfold execOp; rw [ho]
        have e1 : (Int.ofNat i).toNat = i := rfl
        have e2 : (0 : Int) ≤ Int.ofNat i ∧ Int.ofNat i < (n : Int) := ⟨by simp, by simp; omega⟩
        simp [Instr.indexAt, asIntOf, run_und hd, hx, hy, run_szOf ht]
        omega
  · cases hv
theorem run_builtin {w : World} {e : Operand → Value} {b : Builtin} {args : Array Operand} {at' : Array TypeId} (ho : o.op = .call { callee := .builtin b, args := args, argTypes := at' }) {s : Sem Value} {u : Value} {w' : World} {vals : Array Value}
    (hm : args.map e = vals) (hb : ∀ c, builtin b at' o.type c vals = (do pure (.value (← s)))) (hs : s.run P w = .ok u w') : (execOp e o).run P w = .ok (.value u) w' := by
  unfold execOp; rw [ho]
  simp [resolve, invoke, hm, hb, hs]
def vLenS : F1 | .slice _ n _ => some (.int .i64 (.ofNat n)) | _ => none
def vLenT : F1 | .string s => some (.int .i64 (.ofNat s.size)) | _ => none
theorem lenS_ok {x : Operand} {t el : TypeId} {at' : Array TypeId} (ho : o.op = .call { callee := .builtin .len, args := #[x], argTypes := at' }) (h0 : at'[0]? = some t) (hd : P.underlying t = some (.slice el)) : PureOK P o (f1 vLenS) := by
  intro ρ w e l v hl hv
  have hl' : VRs ρ l [e x] := by simpa [Op.operands, Call.operands, ho] using hl
  obtain ⟨a, rfl, ha⟩ := hl'.one
  simp only [f1, vLenS] at hv
  split at hv <;> cases hv
  rename_i b n c
  refine ⟨.int .i64 n, run_builtin ho (vals := #[e x]) (by simp) (fun c => rfl) (s := Builtin.len_ at' o.type #[e x]) ?_, .int _ _⟩
  generalize hx : e x = ex at ha
  cases ha <;> simp [Builtin.len_, h0, run_und hd, goInt]
theorem lenT_ok {x : Operand} {t : TypeId} {at' : Array TypeId} (ho : o.op = .call { callee := .builtin .len, args := #[x], argTypes := at' }) (h0 : at'[0]? = some t) (hd : P.underlying t = some .string) : PureOK P o (f1 vLenT) := by
  intro ρ w e l v hl hv
  have hl' : VRs ρ l [e x] := by simpa [Op.operands, Call.operands, ho] using hl
  obtain ⟨a, rfl, ha⟩ := hl'.one
  simp only [f1, vLenT] at hv
  split at hv <;> cases hv
  rename_i s
  refine ⟨.int .i64 s.size, run_builtin ho (vals := #[e x]) (by simp) (fun c => rfl) (s := Builtin.len_ at' o.type #[e x]) ?_, .int _ _⟩
  generalize hx : e x = ex at ha
  cases ha; simp [Builtin.len_, h0, run_und hd, goInt]
def vCap : F1 | .slice none _ c => some (.int .i64 0) | .slice (some _) _ c => bif Nat.beq (c / 256 % 2) 1 then some (.int .i64 (.ofNat (c / 512))) else none | _ => none
theorem cap_ok {x : Operand} {t el : TypeId} {at' : Array TypeId} (ho : o.op = .call { callee := .builtin .cap, args := #[x], argTypes := at' }) (h0 : at'[0]? = some t) (hd : P.underlying t = some (.slice el)) : PureOK P o (f1 vCap) := by
  intro ρ w e l v hl hv
  have hl' : VRs ρ l [e x] := by simpa [Op.operands, Call.operands, ho] using hl
  obtain ⟨a, rfl, ha⟩ := hl'.one
  simp only [f1, vCap] at hv
  have hrun : ∀ u, (Builtin.cap_ at' o.type #[e x]).run P w = .ok u w → (execOp e o).run P w = .ok (.value u) w := fun u hu => run_builtin ho (vals := #[e x]) (by simp) (fun c => rfl) hu
  generalize hx : e x = ex at ha hrun
  split at hv
  · cases hv
    cases ha
    exact ⟨_, hrun _ (by simp [Builtin.cap_, h0, run_und hd, goInt]), .int _ _⟩
  · rename_i a n c
    cases hb : Nat.beq (c / 256 % 2) 1 with
    | false => rw [hb] at hv; simp at hv
    | true =>
      rw [hb] at hv; cases hv
      cases ha with
      | slice _ h =>
        rename_i a' c'
        have hc := h.2.2.2.1 (Nat.eq_of_beq_eq_true hb)
        subst hc
        exact ⟨_, hrun _ (by simp [Builtin.cap_, h0, run_und hd, goInt]), .int _ _⟩
  · cases hv
end
end Go.HM
