import Derived.Test.YtdhcabbngddboaaGreatDoorHmC
import Derived.Laws.Strings
set_option linter.unusedVariables false
set_option linter.unusedSimpArgs false
namespace Go.HM

/-- an operation that neither reads nor writes memory -/
def PureOK (P : Program) (o : Oper) (g : FN) : Prop :=
  ∀ (ρ : Rho) (w : World) (e : Operand → Value) (l : List Value) (v : Value), VRs ρ l (o.op.operands.toList.map e) → g l = some v →
    ∃ v', (execOp e o).run P w = .ok (.value v') w ∧ VR ρ v v'

theorem VRs.one {ρ : Rho} {l : List Value} {b : Value} (h : VRs ρ l [b]) : ∃ a, l = [a] ∧ VR ρ a b := by
  cases h with | cons h1 h2 => cases h2; exact ⟨_, rfl, h1⟩
theorem VRs.two {ρ : Rho} {l : List Value} {b c : Value} (h : VRs ρ l [b, c]) : ∃ a d, l = [a, d] ∧ VR ρ a b ∧ VR ρ d c := by
  cases h with | cons h1 h2 => obtain ⟨d, rfl, h3⟩ := h2.one; exact ⟨_, _, rfl, h1, h3⟩
theorem VRs.three {ρ : Rho} {l : List Value} {b c d : Value} (h : VRs ρ l [b, c, d]) : ∃ a1 a2 a3, l = [a1, a2, a3] ∧ VR ρ a1 b ∧ VR ρ a2 c ∧ VR ρ a3 d := by
  cases h with | cons h1 h2 => obtain ⟨x, y, rfl, h3, h4⟩ := h2.two; exact ⟨_, _, _, rfl, h1, h3, h4⟩

def f1 (f : F1) : FN | [a] => f a | _ => none
def f2 (f : F2) : FN | [a, b] => f a b | _ => none

/-! ### numbers -/
def pw : IntKind → Nat
  | .i8 | .u8 => 256 | .i16 | .u16 => 65536 | .i32 | .u32 => 4294967296 | .i64 | .u64 => 18446744073709551616
theorem pw_eq (k : IntKind) : pw k = 2 ^ k.bits := by cases k <;> rfl
def mxK : IntKind → Nat
  | .i8 => 127 | .i16 => 32767 | .i32 => 2147483647 | .i64 => 9223372036854775807
  | .u8 => 255 | .u16 => 65535 | .u32 => 4294967295 | .u64 => 18446744073709551615
def uns : IntKind → Bool
  | .u8 | .u16 | .u32 | .u64 => true
  | _ => false
/-- wrap, quick where the number is small, or has no sign -/
def wrapQ (k : IntKind) (n : Int) : Int :=
  match n with
  | .ofNat m => bif Nat.ble m (mxK k) then .ofNat m else bif uns k then .ofNat (Nat.mod m (pw k)) else k.wrap (.ofNat m)
  | .negSucc m => bif Nat.ble m (mxK k) then (bif uns k then .ofNat (Nat.sub (pw k) (Nat.succ m)) else .negSucc m) else k.wrap (.negSucc m)
theorem wrap_small {k : IntKind} {m : Nat} (h : m ≤ mxK k) : k.wrap (m : Int) = (m : Int) := by
  cases k <;> simp only [mxK] at h
  · exact IntWalk.i8_in _ ⟨by omega, by omega⟩
  · exact IntWalk.i16_in _ ⟨by omega, by omega⟩
  · exact IntWalk.i32_in _ ⟨by omega, by omega⟩
  · exact IntWalk.i64_in _ ⟨by omega, by omega⟩
  · exact IntWalk.u8_in _ ⟨by omega, by omega⟩
  · exact IntWalk.u16_in _ ⟨by omega, by omega⟩
  · exact IntWalk.u32_in _ ⟨by omega, by omega⟩
  · exact IntWalk.u64_in _ ⟨by omega, by omega⟩
theorem wrap_uns {k : IntKind} (h : uns k = true) (n : Int) : k.wrap n = n % (pw k : Int) := by
  cases k <;> first | (simp [uns] at h; done) | (simp [IntKind.wrap, IntKind.bits, IntKind.signed, pw])
theorem wrap_neg {k : IntKind} (h : uns k = false) {m : Nat} (hm : m ≤ mxK k) : k.wrap (-((m : Int) + 1)) = -((m : Int) + 1) := by
  cases k <;> first | (simp [uns] at h; done) | skip
  all_goals simp only [mxK] at hm
  · exact IntWalk.i8_in _ ⟨by omega, by omega⟩
  · exact IntWalk.i16_in _ ⟨by omega, by omega⟩
  · exact IntWalk.i32_in _ ⟨by omega, by omega⟩
  · exact IntWalk.i64_in _ ⟨by omega, by omega⟩
theorem wrapQ_eq (k : IntKind) (n : Int) : wrapQ k n = k.wrap n := by
  cases n with
  | ofNat m =>
    simp only [wrapQ]
    cases hb : Nat.ble m (mxK k) with
    | true => exact (wrap_small (Nat.le_of_ble_eq_true hb)).symm
    | false =>
      simp only [cond_false]
      cases hu : uns k with
      | false => rfl
      | true => rw [wrap_uns hu]; rfl
  | negSucc m =>
    simp only [wrapQ]
    cases hb : Nat.ble m (mxK k) with
    | true =>
      have hle : m ≤ mxK k := Nat.le_of_ble_eq_true hb
      simp only [cond_true]
      cases hu : uns k with
      | false => exact (wrap_neg hu hle).symm
      | true =>
        rw [wrap_uns hu, Int.negSucc_eq]
        show ((pw k - (m + 1) : Nat) : Int) = _
        cases k <;> first | (simp [uns] at hu; done) | skip
        all_goals simp only [mxK] at hle
        all_goals simp only [pw]
        all_goals omega
    | false => rfl

def ltZ : Int → Int → Bool
  | .ofNat a, .ofNat b => Nat.blt a b
  | .ofNat _, .negSucc _ => false
  | .negSucc _, .ofNat _ => true
  | .negSucc a, .negSucc b => Nat.blt b a
theorem ltZ_eq (a b : Int) : ltZ a b = decide (a < b) := by
  cases a <;> cases b <;> simp only [ltZ] <;> rw [Bool.eq_iff_iff] <;> simp [Nat.blt] <;> omega
theorem beqInt_eq (a b : Int) : beqInt a b = (a == b) := by
  cases a <;> cases b <;> simp only [beqInt] <;> rw [Bool.eq_iff_iff] <;> simp
  omega
theorem beqInt_iff {a b : Int} : beqInt a b = true ↔ a = b := by rw [beqInt_eq]; simp
theorem beqK_iff {a b : IntKind} : beqK a b = true ↔ a = b := by cases a <;> cases b <;> decide
theorem beqBytes_iff : ∀ {a b : List UInt8}, beqBytes a b = true ↔ a = b := by
  intro a
  induction a with
  | nil => intro b; cases b <;> simp [beqBytes]
  | cons x a ih =>
    intro b
    cases b with
    | nil => simp [beqBytes]
    | cons y b =>
      simp only [beqBytes, Bool.and_eq_true, ih, List.cons.injEq]
      constructor
      · rintro ⟨h1, h2⟩; exact ⟨UInt8.toNat_inj.1 (Nat.eq_of_beq_eq_true h1), h2⟩
      · rintro ⟨rfl, h2⟩; exact ⟨Nat.beq_refl _, h2⟩
theorem beqBytes_eq (a b : ByteArray) : beqBytes a.data.toList b.data.toList = (a.toList == b.toList) := by
  rw [ByteArray.toList_eq, ByteArray.toList_eq, Bool.eq_iff_iff, beqBytes_iff]; simp

/-- two numbers of one kind -/
def onInts (f : IntKind → Int → Int → Option Value) : F2
  | .int k a, .int j b => bif beqK k j then f k a b else none
  | _, _ => none

def bAdd := onInts fun k a b => some (.int k (wrapQ k (a + b)))
def bSub := onInts fun k a b => some (.int k (wrapQ k (a - b)))
def bMul := onInts fun k a b => some (.int k (wrapQ k (a * b)))
def bQuo := onInts fun k a b => bif beqInt b 0 then none else some (.int k (wrapQ k (a.tdiv b)))
def bRem := onInts fun k a b => bif beqInt b 0 then none else some (.int k (a.tmod b))
def bLt := onInts fun _ a b => some (.bool (ltZ a b))
def bGt := onInts fun _ a b => some (.bool (ltZ b a))
def bLe := onInts fun _ a b => some (.bool (!ltZ b a))
def bGe := onInts fun _ a b => some (.bool (!ltZ a b))
def mod2 (k : IntKind) : Int → Nat
  | .ofNat m => Nat.mod m (pw k)
  | .negSucc m => Nat.sub (pw k) (Nat.succ (Nat.mod m (pw k)))
theorem mod2_eq (k : IntKind) (n : Int) : (BitVec.ofInt k.bits n).toNat = mod2 k n := by
  rw [BitVec.toNat_ofInt]
  cases n with
  | ofNat m => cases k <;> simp [mod2, pw, IntKind.bits] <;> rfl
  | negSucc m =>
    rw [Int.negSucc_eq]
    show _ = pw k - (m % pw k + 1)
    cases k <;> simp only [pw, IntKind.bits] <;> omega
def bAnd := onInts fun k a b => some (.int k (wrapQ k (.ofNat (Nat.land (mod2 k a) (mod2 k b)))))
def bOr := onInts fun k a b => some (.int k (wrapQ k (.ofNat (Nat.lor (mod2 k a) (mod2 k b)))))
def bXor := onInts fun k a b => some (.int k (wrapQ k (.ofNat (Nat.xor (mod2 k a) (mod2 k b)))))
def bShl : F2
  | .int k a, .int _ (.ofNat b) => some (.int k (wrapQ k (a * .ofNat (Nat.pow 2 (Nat.min b k.bits)))))
  | _, _ => none
def bShr : F2
  | .int k a, .int _ (.ofNat b) => some (.int k (a.fdiv (.ofNat (Nat.pow 2 (Nat.min b k.bits)))))
  | _, _ => none
/-- numbers, texts, bools; nil -/
def eqB : Value → Value → Option Bool
  | .bool a, .bool b => some (a == b)
  | .int k a, .int j b => bif beqK k j then some (beqInt a b) else none
  | .string a, .string b => some (beqBytes a.data.toList b.data.toList)
  | .pointer none, .pointer b => some b.isNone
  | .pointer (some _), .pointer none => some false
  | .slice none _ _, .slice b _ _ => some b.isNone
  | .slice (some _) _ _, .slice none _ _ => some false
  | .map none, .map b => some b.isNone
  | .map (some _), .map none => some false
  | _, _ => none
def bEq : F2 := fun x y => match eqB x y with | some b => some (.bool b) | none => none
def bNe : F2 := fun x y => match eqB x y with | some b => some (.bool !b) | none => none
def bCat : F2
  | .string a, .string b => bif Nat.ble (a.size + b.size) 1000000 then some (.string (a ++ b)) else none
  | _, _ => none
def bSLt : F2
  | .string a, .string b => some (.bool (Op.bytesLess a.data.toList b.data.toList))
  | _, _ => none

section
variable {P : Program} {w : World}
theorem eqGuard_ints (op : BinOp) (t : TypeId) (x y : Operand) (k j : IntKind) (a b : Int) : (eqGuard op t x y (.int k a) (.int j b)).run P w = .ok () w := by
  unfold eqGuard
  split <;> rfl
theorem eqGuard_strs (op : BinOp) (t : TypeId) (x y : Operand) (a b : ByteArray) : (eqGuard op t x y (.string a) (.string b)).run P w = .ok () w := by
  unfold eqGuard
  split <;> rfl
end

/-- the run of a binary operation, its guard said -/
theorem run_bin {P : Program} {w : World} {o : Oper} {op : BinOp} {t : TypeId} {x y : Operand} {yt : TypeId} (ho : o.op = .binOp op t x y yt) (e : Operand → Value) {v : Value}
    (hg : (eqGuard op t x y (e x) (e y)).run P w = .ok () w) (hb : (binOp op t (e x) (e y)).run P w = .ok v w) :
    (execOp e o).run P w = .ok (.value v) w := by
  unfold execOp
  rw [ho]
  simp only [Sem.run_bind, hg, Result.andThen_ok, hb, Sem.run_pure]

theorem ints_ok {P : Program} {o : Oper} {op : BinOp} {t : TypeId} {x y : Operand} {yt : TypeId} (ho : o.op = .binOp op t x y yt) (f : IntKind → Int → Int → Option Value)
    (h : ∀ k a b v, f k a b = some v → (∀ w, (binOp op t (.int k a) (.int k b)).run P w = .ok v w) ∧ ∀ ρ, VR ρ v v) : PureOK P o (f2 (onInts f)) := by
  intro ρ w e l v hl hv
  have hl' : VRs ρ l [e x, e y] := by simpa [Op.operands, ho] using hl
  obtain ⟨a, b, rfl, ha, hb⟩ := hl'.two
  simp only [f2] at hv
  unfold onInts at hv
  split at hv
  · rename_i k i j i'
    cases hk : beqK k j with
    | false => rw [hk] at hv; simp at hv
    | true =>
      rw [hk] at hv
      simp only [cond_true] at hv
      have := beqK_iff.1 hk; subst this
      obtain ⟨hr, hvv⟩ := h _ _ _ _ hv
      generalize hx : e x = ex at ha
      generalize hy : e y = ey at hb
      cases ha; cases hb
      exact ⟨v, run_bin ho e (by rw [hx, hy]; exact eqGuard_ints _ _ _ _ _ _ _ _) (by rw [hx, hy]; exact hr w), hvv ρ⟩
  · cases hv

section
variable {P : Program} {o : Oper} {t : TypeId} {x y : Operand} {yt : TypeId}
theorem bAdd_ok (ho : o.op = .binOp .add t x y yt) : PureOK P o (f2 bAdd) :=
  ints_ok ho _ fun k a b v h => by cases h; exact ⟨fun w => by simp [binOp, Op.intArith, wrapQ_eq], fun ρ => .int _ _⟩
theorem bSub_ok (ho : o.op = .binOp .sub t x y yt) : PureOK P o (f2 bSub) :=
  ints_ok ho _ fun k a b v h => by cases h; exact ⟨fun w => by simp [binOp, Op.intArith, wrapQ_eq], fun ρ => .int _ _⟩
theorem bMul_ok (ho : o.op = .binOp .mul t x y yt) : PureOK P o (f2 bMul) :=
  ints_ok ho _ fun k a b v h => by cases h; exact ⟨fun w => by simp [binOp, Op.intArith, wrapQ_eq], fun ρ => .int _ _⟩
theorem bQuo_ok (ho : o.op = .binOp .quo t x y yt) : PureOK P o (f2 bQuo) :=
  ints_ok ho _ fun k a b v h => by
    cases hb : beqInt b 0 with
    | true => rw [hb] at h; simp at h
    | false =>
      rw [hb] at h; cases h
      have : b ≠ 0 := fun e => by subst e; simp [beqInt_eq] at hb
      exact ⟨fun w => by simp [binOp, Op.intDiv, wrapQ_eq, this], fun ρ => .int _ _⟩
theorem bRem_ok (ho : o.op = .binOp .rem t x y yt) : PureOK P o (f2 bRem) :=
  ints_ok ho _ fun k a b v h => by
    cases hb : beqInt b 0 with
    | true => rw [hb] at h; simp at h
    | false =>
      rw [hb] at h; cases h
      have : b ≠ 0 := fun e => by subst e; simp [beqInt_eq] at hb
      exact ⟨fun w => by simp [binOp, Op.intDiv, this], fun ρ => .int _ _⟩
theorem bLt_ok (ho : o.op = .binOp .lss t x y yt) : PureOK P o (f2 bLt) :=
  ints_ok ho _ fun k a b v h => by cases h; exact ⟨fun w => by simp [binOp, Op.intCmp, ltZ_eq], fun ρ => .bool _⟩
theorem bGt_ok (ho : o.op = .binOp .gtr t x y yt) : PureOK P o (f2 bGt) :=
  ints_ok ho _ fun k a b v h => by cases h; exact ⟨fun w => by simp [binOp, Op.intCmp, ltZ_eq], fun ρ => .bool _⟩
theorem bLe_ok (ho : o.op = .binOp .leq t x y yt) : PureOK P o (f2 bLe) :=
  ints_ok ho _ fun k a b v h => by
    cases h; exact ⟨fun w => by simp [binOp, Op.intCmp, ltZ_eq]; rw [Bool.eq_iff_iff]; simp, fun ρ => .bool _⟩
theorem bGe_ok (ho : o.op = .binOp .geq t x y yt) : PureOK P o (f2 bGe) :=
  ints_ok ho _ fun k a b v h => by
    cases h; exact ⟨fun w => by simp [binOp, Op.intCmp, ltZ_eq]; rw [Bool.eq_iff_iff]; simp, fun ρ => .bool _⟩
theorem bAnd_ok (ho : o.op = .binOp .and t x y yt) : PureOK P o (f2 bAnd) :=
  ints_ok ho _ fun k a b v h => by
    cases h; exact ⟨fun w => by simp only [binOp, Op.intBits, wrapQ_eq, ne_eq, not_true, if_false, BitVec.toNat_and, mod2_eq]; rfl, fun ρ => .int _ _⟩
theorem bOr_ok (ho : o.op = .binOp .or t x y yt) : PureOK P o (f2 bOr) :=
  ints_ok ho _ fun k a b v h => by
    cases h; exact ⟨fun w => by simp only [binOp, Op.intBits, wrapQ_eq, ne_eq, not_true, if_false, BitVec.toNat_or, mod2_eq]; rfl, fun ρ => .int _ _⟩
theorem bXor_ok (ho : o.op = .binOp .xor t x y yt) : PureOK P o (f2 bXor) :=
  ints_ok ho _ fun k a b v h => by
    cases h; exact ⟨fun w => by simp only [binOp, Op.intBits, wrapQ_eq, ne_eq, not_true, if_false, BitVec.toNat_xor, mod2_eq]; rfl, fun ρ => .int _ _⟩
end
end Go.HM
