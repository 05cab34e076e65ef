import Derived.Calls
import Derived.LoopN
import Derived.Orders
import Derived.Below
set_option linter.unusedVariables false
namespace Go.HM

/-! ### frames -/
inductive Pt | h | o (p : Pt) | i (p : Pt)
  deriving DecidableEq

def Pt.ofNatF : Nat → Nat → Pt
  | 0, _ => .h
  | k + 1, n => bif Nat.beq n 0 then .h else bif Nat.beq (n % 2) 1 then .o (ofNatF k (n / 2)) else .i (ofNatF k (n / 2 - 1))
def Pt.ofNat (n : Nat) : Pt := ofNatF (n + 1) n
def Pt.toNat : Pt → Nat
  | .h => 0
  | .o p => 2 * p.toNat + 1
  | .i p => 2 * p.toNat + 2

theorem Pt.toNat_ofNatF : ∀ k n, n < k → (Pt.ofNatF k n).toNat = n := by
  intro k
  induction k with
  | zero => intro n h; omega
  | succ k ih =>
    intro n h
    unfold Pt.ofNatF
    cases h0 : Nat.beq n 0 with
    | true => have : n = 0 := Nat.eq_of_beq_eq_true h0; subst this; rfl
    | false =>
      have hn : n ≠ 0 := fun e => by subst e; simp at h0
      cases h1 : Nat.beq (n % 2) 1 with
      | true =>
        have : n % 2 = 1 := Nat.eq_of_beq_eq_true h1
        simp only [cond_false, cond_true, Pt.toNat]
        rw [ih _ (by omega)]; omega
      | false =>
        have : n % 2 ≠ 1 := fun e => by rw [e] at h1; simp at h1
        simp only [cond_false, Pt.toNat]
        rw [ih _ (by omega)]; omega
theorem Pt.toNat_ofNat (n : Nat) : (Pt.ofNat n).toNat = n := Pt.toNat_ofNatF _ _ (by omega)
theorem Pt.toNat_inj : ∀ {p q : Pt}, p.toNat = q.toNat → p = q := by
  intro p
  induction p with
  | h => intro q h; cases q <;> simp [Pt.toNat] at h ⊢
  | o p ih => intro q h; cases q <;> simp [Pt.toNat] at h ⊢ <;> first | exact ih (by omega) | omega
  | i p ih => intro q h; cases q <;> simp [Pt.toNat] at h ⊢ <;> first | exact ih (by omega) | omega
theorem Pt.ofNat_toNat (p : Pt) : Pt.ofNat p.toNat = p := Pt.toNat_inj (Pt.toNat_ofNat _)

def undefV : Value := .tuple #[]

inductive Fr | lf | nd (l : Fr) (v : Value) (r : Fr)

noncomputable def Fr.get (p : Pt) : Fr → Value :=
  Pt.rec (motive := fun _ => Fr → Value)
    (fun t => Fr.rec (motive := fun _ => Value) undefV (fun _ v _ _ _ => v) t)
    (fun _ ih t => Fr.rec (motive := fun _ => Value) undefV (fun l _ _ _ _ => ih l) t)
    (fun _ ih t => Fr.rec (motive := fun _ => Value) undefV (fun _ _ r _ _ => ih r) t) p

noncomputable def Fr.set (p : Pt) : Value → Fr → Fr :=
  Pt.rec (motive := fun _ => Value → Fr → Fr)
    (fun x t => Fr.rec (motive := fun _ => Fr) (.nd .lf x .lf) (fun l _ r _ _ => .nd l x r) t)
    (fun _ ih x t => Fr.rec (motive := fun _ => Fr) (.nd (ih x .lf) undefV .lf) (fun l v r _ _ => .nd (ih x l) v r) t)
    (fun _ ih x t => Fr.rec (motive := fun _ => Fr) (.nd .lf undefV (ih x .lf)) (fun l v r _ _ => .nd l v (ih x r)) t) p

theorem Fr.get_lf (p : Pt) : Fr.get p .lf = undefV := by cases p <;> rfl
theorem Fr.get_set (p q : Pt) (x : Value) : ∀ t, Fr.get q (Fr.set p x t) = if q = p then x else Fr.get q t := by
  induction p generalizing q with
  | h => intro t; cases q <;> cases t <;> first | rfl | (simp; exact Fr.get_lf _)
  | o p ih =>
    intro t
    cases q with
    | h => cases t <;> rfl
    | o q =>
      cases t with
      | lf => show Fr.get q (Fr.set p x .lf) = _; rw [ih]; simp only [Pt.o.injEq]; rw [Fr.get_lf, Fr.get_lf]
      | nd l v r => show Fr.get q (Fr.set p x l) = _; rw [ih]; simp only [Pt.o.injEq]; rfl
    | i q => cases t <;> first | rfl | (simp; exact Fr.get_lf _)
  | i p ih =>
    intro t
    cases q with
    | h => cases t <;> rfl
    | i q =>
      cases t with
      | lf => show Fr.get q (Fr.set p x .lf) = _; rw [ih]; simp only [Pt.i.injEq]; rw [Fr.get_lf, Fr.get_lf]
      | nd l v r => show Fr.get q (Fr.set p x r) = _; rw [ih]; simp only [Pt.i.injEq]; rfl
    | o q => cases t <;> first | rfl | (simp; exact Fr.get_lf _)

/-! ### memory -/
inductive HO where
  | no
  | cells (c : List Value)
  | ext (c : List Value)
  | map (es : List (Value × Value))
  | iter (s : ByteArray) (pos : Nat)

inductive TM | lf | nd (l : TM) (v : HO) (r : TM)

noncomputable def TM.get (t : TM) : Nat → HO :=
  TM.rec (motive := fun _ => Nat → HO) (fun _ => .no)
    (fun _ v _ gl gr n => Bool.rec (Bool.rec (gr (Nat.sub (Nat.div n 2) 1)) (gl (Nat.div n 2)) (Nat.beq (Nat.mod n 2) 1)) v (Nat.beq n 0)) t

noncomputable def TM.setF (k : Nat) : TM → Nat → HO → TM :=
  Nat.rec (motive := fun _ => TM → Nat → HO → TM) (fun t _ _ => t)
    (fun _ ih t n x => TM.rec (motive := fun _ => TM)
      (Bool.rec (Bool.rec (.nd .lf .no (ih .lf (Nat.sub (Nat.div n 2) 1) x)) (.nd (ih .lf (Nat.div n 2) x) .no .lf) (Nat.beq (Nat.mod n 2) 1)) (.nd .lf x .lf) (Nat.beq n 0))
      (fun l v r _ _ => Bool.rec (Bool.rec (.nd l v (ih r (Nat.sub (Nat.div n 2) 1) x)) (.nd (ih l (Nat.div n 2) x) v r) (Nat.beq (Nat.mod n 2) 1)) (.nd l x r) (Nat.beq n 0)) t) k
noncomputable def TM.set (t : TM) (n : Nat) (x : HO) : TM := TM.setF (Nat.succ n) t n x

theorem TM.get_nd (l : TM) (v : HO) (r : TM) (n : Nat) : (TM.nd l v r).get n = if n = 0 then v else if n % 2 = 1 then l.get (n / 2) else r.get (n / 2 - 1) := by
  show (Bool.rec (motive := fun _ => HO) (Bool.rec (motive := fun _ => HO) (r.get (n / 2 - 1)) (l.get (n / 2)) (Nat.beq (n % 2) 1)) v (Nat.beq n 0)) = _
  cases h0 : Nat.beq n 0 with
  | true => have : n = 0 := Nat.eq_of_beq_eq_true h0; rw [if_pos this]
  | false =>
    have hn : n ≠ 0 := fun e => by subst e; simp at h0
    rw [if_neg hn]
    cases h1 : Nat.beq (n % 2) 1 with
    | true => rw [if_pos (Nat.eq_of_beq_eq_true h1)]
    | false => rw [if_neg (fun e => by rw [e] at h1; simp at h1)]
theorem TM.setF_lf (k n : Nat) (x : HO) : TM.setF (k + 1) .lf n x = if n = 0 then .nd .lf x .lf else if n % 2 = 1 then .nd (TM.setF k .lf (n / 2) x) .no .lf else .nd .lf .no (TM.setF k .lf (n / 2 - 1) x) := by
  show (Bool.rec (motive := fun _ => TM) (Bool.rec (motive := fun _ => TM) (TM.nd .lf .no (TM.setF k .lf (n / 2 - 1) x)) (.nd (TM.setF k .lf (n / 2) x) .no .lf) (Nat.beq (n % 2) 1)) (.nd .lf x .lf) (Nat.beq n 0)) = _
  cases h0 : Nat.beq n 0 with
  | true => have : n = 0 := Nat.eq_of_beq_eq_true h0; rw [if_pos this]
  | false =>
    have hn : n ≠ 0 := fun e => by subst e; simp at h0
    rw [if_neg hn]
    cases h1 : Nat.beq (n % 2) 1 with
    | true => rw [if_pos (Nat.eq_of_beq_eq_true h1)]
    | false => rw [if_neg (fun e => by rw [e] at h1; simp at h1)]
theorem TM.setF_nd (k n : Nat) (x : HO) (l : TM) (v : HO) (r : TM) : TM.setF (k + 1) (.nd l v r) n x = if n = 0 then .nd l x r else if n % 2 = 1 then .nd (TM.setF k l (n / 2) x) v r else .nd l v (TM.setF k r (n / 2 - 1) x) := by
  show (Bool.rec (motive := fun _ => TM) (Bool.rec (motive := fun _ => TM) (TM.nd l v (TM.setF k r (n / 2 - 1) x)) (.nd (TM.setF k l (n / 2) x) v r) (Nat.beq (n % 2) 1)) (.nd l x r) (Nat.beq n 0)) = _
  cases h0 : Nat.beq n 0 with
  | true => have : n = 0 := Nat.eq_of_beq_eq_true h0; rw [if_pos this]
  | false =>
    have hn : n ≠ 0 := fun e => by subst e; simp at h0
    rw [if_neg hn]
    cases h1 : Nat.beq (n % 2) 1 with
    | true => rw [if_pos (Nat.eq_of_beq_eq_true h1)]
    | false => rw [if_neg (fun e => by rw [e] at h1; simp at h1)]
theorem TM.get_lf (n : Nat) : TM.lf.get n = .no := rfl
theorem TM.get_setF : ∀ k (t : TM) (n m : Nat) (x : HO), n < k → (TM.setF k t n x).get m = if m = n then x else t.get m := by
  intro k
  induction k with
  | zero => intro t n m x h; omega
  | succ k ih =>
    intro t n m x h
    cases t with
    | lf =>
      rw [TM.setF_lf, TM.get_lf]
      by_cases h0 : n = 0
      · rw [if_pos h0, TM.get_nd]; subst h0
        by_cases hm : m = 0 <;> simp [hm, TM.get_lf]
      · rw [if_neg h0]
        by_cases h1 : n % 2 = 1
        · rw [if_pos h1, TM.get_nd, ih _ _ _ _ (by omega)]
          by_cases hm : m = 0
          · rw [if_pos hm, if_neg (by omega)]
          · rw [if_neg hm]
            by_cases hm1 : m % 2 = 1
            · rw [if_pos hm1, TM.get_lf]
              by_cases hmn : m = n
              · rw [if_pos (by omega), if_pos hmn]
              · rw [if_neg (by omega), if_neg hmn]
            · rw [if_neg hm1, TM.get_lf, if_neg (by omega)]
        · rw [if_neg h1, TM.get_nd, ih _ _ _ _ (by omega)]
          by_cases hm : m = 0
          · rw [if_pos hm, if_neg (by omega)]
          · rw [if_neg hm]
            by_cases hm1 : m % 2 = 1
            · rw [if_pos hm1, TM.get_lf, if_neg (by omega)]
            · rw [if_neg hm1, TM.get_lf]
              by_cases hmn : m = n
              · rw [if_pos (by omega), if_pos hmn]
              · rw [if_neg (by omega), if_neg hmn]
    | nd l v r =>
      rw [TM.setF_nd]
      by_cases h0 : n = 0
      · rw [if_pos h0, TM.get_nd, TM.get_nd]; subst h0
        by_cases hm : m = 0 <;> simp [hm]
      · rw [if_neg h0]
        by_cases h1 : n % 2 = 1
        · rw [if_pos h1, TM.get_nd, TM.get_nd, ih _ _ _ _ (by omega)]
          by_cases hm : m = 0
          · rw [if_pos hm, if_pos hm, if_neg (by omega)]
          · rw [if_neg hm, if_neg hm]
            by_cases hm1 : m % 2 = 1
            · rw [if_pos hm1, if_pos hm1]
              by_cases hmn : m = n
              · rw [if_pos (by omega), if_pos hmn]
              · rw [if_neg (by omega), if_neg hmn]
            · rw [if_neg hm1, if_neg hm1, if_neg (by omega)]
        · rw [if_neg h1, TM.get_nd, TM.get_nd, ih _ _ _ _ (by omega)]
          by_cases hm : m = 0
          · rw [if_pos hm, if_pos hm, if_neg (by omega)]
          · rw [if_neg hm, if_neg hm]
            by_cases hm1 : m % 2 = 1
            · rw [if_pos hm1, if_pos hm1, if_neg (by omega)]
            · rw [if_neg hm1, if_neg hm1]
              by_cases hmn : m = n
              · rw [if_pos (by omega), if_pos hmn]
              · rw [if_neg (by omega), if_neg hmn]
theorem TM.get_set (t : TM) (n m : Nat) (x : HO) : (t.set n x).get m = if m = n then x else t.get m := TM.get_setF _ _ _ _ _ (Nat.lt_succ_self n)

structure M where
  next : Nat
  mem : TM

/-! ### the relation -/
structure Loc where
  b : Nat
  base : Nat
  total : Nat
/-- at: a fixed address, of which the memory knows nothing -/
inductive St | dead | live (l : Loc) | at (a : Addr)
abbrev Rho := Nat → Option St

def AR (ρ : Rho) (a a' : Addr) : Prop :=
  a.spot = none ∧ a'.spot = none ∧ ∃ st, ρ a.block = some st ∧ ∀ l, st = .live l → a'.block = l.b ∧ a'.off = a.off + l.base
/-- The room of a slice is kept as (2 * room + (1 if it is known to the one)) * 256 + an element's cells. -/
def SR (ρ : Rho) (a : Addr) (n c : Nat) (a' : Addr) (c' : Nat) : Prop :=
  a.spot = none ∧ a'.spot = none ∧ (n ≤ c / 512 ∧ c / 512 ≤ c') ∧ (c / 256 % 2 = 1 → c' = c / 512) ∧
    ∃ st, ρ a.block = some st ∧ ∀ l, st = .live l → 0 < c' → a'.block = l.b ∧ a'.off = a.off + l.base ∧ a'.off + c' * (c % 256) ≤ l.total
def MR (ρ : Rho) (r r' : Nat) : Prop := ∃ st, ρ r = some st ∧ ∀ l, st = .live l → r' = l.b

mutual
inductive VR (ρ : Rho) : Value → Value → Prop
  | bool (b) : VR ρ (.bool b) (.bool b)
  | int (k n) : VR ρ (.int k n) (.int k n)
  | string (s) : VR ρ (.string s) (.string s)
  | nilp : VR ρ (.pointer none) (.pointer none)
  | ptr {a a'} : AR ρ a a' → VR ρ (.pointer (some a)) (.pointer (some a'))
  | nils (c) : c / 512 = 0 → VR ρ (.slice none 0 c) (.slice none 0 0)
  | slice (n) {a c a' c'} : SR ρ a n c a' c' → VR ρ (.slice (some a) n c) (.slice (some a') n c')
  | nilm : VR ρ (.map none) (.map none)
  | map {r r'} : MR ρ r r' → VR ρ (.map (some r)) (.map (some r'))
  | func (fn) {xs xs' ys ys'} : VRs ρ xs xs' → VRs ρ ys ys' → VR ρ (.func fn ⟨xs⟩ ⟨ys⟩) (.func fn ⟨xs'⟩ ⟨ys'⟩)
  | nilf : VR ρ .nilFunc .nilFunc
  | iface (t) {v v'} : VR ρ v v' → VR ρ (.iface t v) (.iface t v')
  | nili : VR ρ .nilIface .nilIface
  | agg {xs xs'} : VRs ρ xs xs' → VR ρ (.agg ⟨xs⟩) (.agg ⟨xs'⟩)
  | tuple {xs xs'} : VRs ρ xs xs' → VR ρ (.tuple ⟨xs⟩) (.tuple ⟨xs'⟩)
  | yld (l) : VR ρ (.chan (some l)) (.func (.yield l) #[] #[])
  | raw (b o) : VR ρ (.complex .f32 b o) (.pointer (some ⟨b, o, none⟩))
  | sent {id o a} : ρ id = some (.at a) → VR ρ (.complex .f64 id o) (.pointer (some ⟨a.block, a.off, none⟩))
inductive VRs (ρ : Rho) : List Value → List Value → Prop
  | nil : VRs ρ [] []
  | cons {v v' xs xs'} : VR ρ v v' → VRs ρ xs xs' → VRs ρ (v :: xs) (v' :: xs')
end

/-- what may become of places -/
def Rho.le (ρ ρ' : Rho) : Prop := ∀ id st, ρ id = some st → ∃ st', ρ' id = some st' ∧ (st' = st ∨ (st' = .dead ∧ ∃ l, st = .live l))
theorem Rho.le_refl (ρ : Rho) : ρ.le ρ := fun id st h => ⟨st, h, .inl rfl⟩
theorem Rho.le_trans {ρ ρ' ρ'' : Rho} (h : ρ.le ρ') (h' : ρ'.le ρ'') : ρ.le ρ'' := fun id st hs => by
  obtain ⟨st', h1, h2⟩ := h id st hs
  obtain ⟨st'', h3, h4⟩ := h' id st' h1
  refine ⟨st'', h3, ?_⟩
  rcases h4 with rfl | ⟨rfl, l, rfl⟩
  · exact h2
  · rcases h2 with rfl | ⟨h2, _⟩
    · exact .inr ⟨rfl, l, rfl⟩
    · cases h2
theorem Rho.le.at {ρ ρ' : Rho} (h : ρ.le ρ') {id : Nat} {a : Addr} (hs : ρ id = some (.at a)) : ρ' id = some (.at a) := by
  obtain ⟨st', h1, h2⟩ := h id _ hs
  rcases h2 with rfl | ⟨_, l, h3⟩
  · exact h1
  · cases h3

theorem AR.mono {ρ ρ' : Rho} (hl : ρ.le ρ') {a a' : Addr} (h : AR ρ a a') : AR ρ' a a' := by
  obtain ⟨h1, h2, st, h3, h4⟩ := h
  obtain ⟨st', h5, h6⟩ := hl _ _ h3
  refine ⟨h1, h2, st', h5, fun l e => ?_⟩
  subst e
  rcases h6 with h6 | ⟨h6, _⟩
  · exact h4 l h6.symm
  · cases h6
theorem SR.mono {ρ ρ' : Rho} (hl : ρ.le ρ') {a a' : Addr} {n c c' : Nat} (h : SR ρ a n c a' c') : SR ρ' a n c a' c' := by
  obtain ⟨h1, h2, h3, h3', st, h4, h5⟩ := h
  obtain ⟨st', h6, h7⟩ := hl _ _ h4
  refine ⟨h1, h2, h3, h3', st', h6, fun l e => ?_⟩
  subst e
  rcases h7 with h7 | ⟨h7, _⟩
  · exact h5 l h7.symm
  · cases h7
theorem MR.mono {ρ ρ' : Rho} (hl : ρ.le ρ') {r r' : Nat} (h : MR ρ r r') : MR ρ' r r' := by
  obtain ⟨st, h4, h5⟩ := h
  obtain ⟨st', h6, h7⟩ := hl _ _ h4
  refine ⟨st', h6, fun l e => ?_⟩
  subst e
  rcases h7 with h7 | ⟨h7, _⟩
  · exact h5 l h7.symm
  · cases h7

mutual
theorem VR.mono {ρ ρ' : Rho} (hl : ρ.le ρ') : ∀ {v v' : Value}, VR ρ v v' → VR ρ' v v'
  | _, _, .bool b => .bool b
  | _, _, .int k n => .int k n
  | _, _, .string s => .string s
  | _, _, .nilp => .nilp
  | _, _, .ptr h => .ptr (h.mono hl)
  | _, _, .nils c h => .nils c h
  | _, _, .slice n h => .slice n (h.mono hl)
  | _, _, .nilm => .nilm
  | _, _, .map h => .map (h.mono hl)
  | _, _, .func fn h h' => .func fn (VRs.mono hl h) (VRs.mono hl h')
  | _, _, .nilf => .nilf
  | _, _, .iface t h => .iface t (VR.mono hl h)
  | _, _, .nili => .nili
  | _, _, .agg h => .agg (VRs.mono hl h)
  | _, _, .tuple h => .tuple (VRs.mono hl h)
  | _, _, .yld l => .yld l
  | _, _, .raw b o => .raw b o
  | _, _, .sent h => .sent (hl.at h)
theorem VRs.mono {ρ ρ' : Rho} (hl : ρ.le ρ') : ∀ {v v' : List Value}, VRs ρ v v' → VRs ρ' v v'
  | _, _, .nil => .nil
  | _, _, .cons h h' => .cons (VR.mono hl h) (VRs.mono hl h')
end

theorem VRs.length {ρ : Rho} {l l' : List Value} (h : VRs ρ l l') : l.length = l'.length := by
  induction l generalizing l' with
  | nil => cases h; rfl
  | cons v l ih => cases h with | cons _ h => simp [ih h]
theorem VRs.get {ρ : Rho} {l l' : List Value} (h : VRs ρ l l') {k : Nat} {v : Value} (hk : l[k]? = some v) : ∃ v', l'[k]? = some v' ∧ VR ρ v v' := by
  induction l generalizing l' k with
  | nil => simp at hk
  | cons x l ih =>
    cases h with
    | cons h1 h2 =>
      cases k with
      | zero => simp at hk; subst hk; exact ⟨_, rfl, h1⟩
      | succ k => simp at hk; obtain ⟨v', h3, h4⟩ := ih h2 hk; exact ⟨v', by simpa using h3, h4⟩
theorem VRs.append {ρ : Rho} {l l' m m' : List Value} (h : VRs ρ l l') (h' : VRs ρ m m') : VRs ρ (l ++ m) (l' ++ m') := by
  induction l generalizing l' with
  | nil => cases h; exact h'
  | cons x l ih => cases h with | cons h1 h2 => exact .cons h1 (ih h2)
theorem VRs.of_get {ρ : Rho} : ∀ {l l' : List Value}, l.length = l'.length → (∀ (k : Nat) (v v' : Value), l[k]? = some v → l'[k]? = some v' → VR ρ v v') → VRs ρ l l' := by
  intro l
  induction l with
  | nil => intro l' h _; cases l' with | nil => exact .nil | cons => simp at h
  | cons x l ih =>
    intro l' h hg
    cases l' with
    | nil => simp at h
    | cons y l' => exact .cons (hg 0 x y rfl rfl) (ih (by simpa using h) fun k v v' h1 h2 => hg (k + 1) v v' (by simpa using h1) (by simpa using h2))

/-- an object of the memory in the world -/
def OR (ρ : Rho) (l : Loc) (o : HO) (h : Option Obj) : Prop :=
  match o with
  | .no => False
  | .cells cs => ∃ c e lo hi, h = some (.cells c e (lo, hi)) ∧ c.size = l.total ∧ l.base + cs.length ≤ l.total ∧
      (∀ (k : Nat) (v : Value), cs[k]? = some v → ∃ v' : Value, c[l.base + k]? = some v' ∧ VR ρ v v') ∧ (lo = hi ∨ l.total ≤ lo)
  | .ext cs => ∃ c e fz, h = some (.cells c e fz) ∧ c.size = l.total ∧ l.base + cs.length ≤ l.total ∧
      (∀ (k : Nat) (v : Value), cs[k]? = some v → ∃ v' : Value, c[l.base + k]? = some v' ∧ VR ρ v v')
  | .map es => ∃ entries clock, h = some (.map entries clock) ∧ es.length = entries.size ∧
      (∀ (k : Nat) (p : Value × Value), es[k]? = some p → ∃ e : MapEntry, entries[k]? = some e ∧ VR ρ p.1 e.key ∧ VR ρ p.2 e.val)
  | .iter s pos => l.base = 0 ∧ h = some (.stringIter s pos)

theorem OR.mono {ρ ρ' : Rho} (hl : ρ.le ρ') {l : Loc} {o : HO} {h : Option Obj} (hr : OR ρ l o h) : OR ρ' l o h := by
  cases o with
  | no => exact hr
  | cells cs =>
    obtain ⟨c, e, lo, hi, h2, h3, h4, h5, h6⟩ := hr
    exact ⟨c, e, lo, hi, h2, h3, h4, fun k v hk => let ⟨v', a, b⟩ := h5 k v hk; ⟨v', a, b.mono hl⟩, h6⟩
  | ext cs =>
    obtain ⟨c, e, fz, h2, h3, h4, h5⟩ := hr
    exact ⟨c, e, fz, h2, h3, h4, fun k v hk => let ⟨v', a, b⟩ := h5 k v hk; ⟨v', a, b.mono hl⟩⟩
  | map es =>
    obtain ⟨en, cl, h1, h2, h3⟩ := hr
    exact ⟨en, cl, h1, h2, fun k p hk => let ⟨e, a, b, c⟩ := h3 k p hk; ⟨e, a, b.mono hl, c.mono hl⟩⟩
  | iter s pos => exact hr

/-- what becomes of a package-level variable: it is read, or nothing is known of it -/
def gst (g : Nat) : Option Nat → St | some t => .live ⟨g, 0, t⟩ | none => .dead
/-- B: numbers from there on are none of this memory's: blocks that others hold meanwhile -/
structure Sim (G B : Nat) (ρ : Rho) (m : M) (w : World) : Prop where
  obj : ∀ id l, id < B → ρ id = some (.live l) → OR ρ l (m.mem.get id) w.heap[l.b]?
  inj : ∀ i j l l', ρ i = some (.live l) → ρ j = some (.live l') → l.b = l'.b → i = j
  blk : ∀ id l, ρ id = some (.live l) → l.b < w.heap.size
  fresh : ∀ id, m.next ≤ id → id < B → ρ id = none
  high : ∀ id, B ≤ id ∨ m.next ≤ id → m.mem.get id = .no
  dead : ∀ id, ρ id = some .dead → m.mem.get id = .no
  glob : ∀ g, g < G → ∃ t, ρ g = some (gst g t)
  sat : ∀ id a, ρ id = some (.at a) → m.mem.get id = .no

theorem Sim.lt {G B : Nat} {ρ : Rho} {m : M} {w : World} (h : Sim G B ρ m w) {id : Nat} (hn : m.mem.get id ≠ .no) : id < B := by
  rcases Nat.lt_or_ge id B with h1 | h1
  · exact h1
  · exact absurd (h.high id (.inl h1)) hn

theorem Sim.ltn {G B : Nat} {ρ : Rho} {m : M} {w : World} (h : Sim G B ρ m w) {id : Nat} (hB : id < B) {st : St} (hr : ρ id = some st) : id < m.next := by
  rcases Nat.lt_or_ge id m.next with h1 | h1
  · exact h1
  · rw [h.fresh id h1 hB] at hr; cases hr

/-- what a piece of a run does to memory: R: ids below are only read -/
structure Ext (R B : Nat) (ρ : Rho) (m : M) (w : World) (ρ' : Rho) (m' : M) (w' : World) : Prop where
  le : ρ.le ρ'
  next : m.next ≤ m'.next
  none : ∀ id, ρ id = none → id < m.next → ρ' id = none ∧ m'.mem.get id = m.mem.get id
  ro : ∀ id, id < R → ρ' id = ρ id ∧ m'.mem.get id = m.mem.get id
  high : ∀ id, B ≤ id → ρ' id = ρ id ∧ ∀ l, ρ id = some (.live l) → w'.heap[l.b]? = w.heap[l.b]?
  os : w'.os = w.os
  tape : w'.tape = w.tape
  output : w'.output = w.output
  size : w.heap.size ≤ w'.heap.size
  keep : ∀ b, b < w.heap.size → (∀ id l, ρ id = some (.live l) → l.b = b → id < R) → w'.heap[b]? = w.heap[b]?
  own : ∀ id l, ρ' id = some (.live l) → w.heap.size ≤ l.b ∨ ∃ id' l', ρ id' = some (.live l') ∧ l'.b = l.b ∧ (id' < R → id' = id)

theorem Ext.refl (R B : Nat) (ρ : Rho) (m : M) (w : World) : Ext R B ρ m w ρ m w where
  le := ρ.le_refl
  next := Nat.le_refl _
  none := fun _ h _ => ⟨h, rfl⟩
  ro := fun _ _ => ⟨rfl, rfl⟩
  high := fun _ _ => ⟨rfl, fun _ _ => rfl⟩
  os := rfl
  tape := rfl
  output := rfl
  size := Nat.le_refl _
  keep := fun _ _ _ => rfl
  own := fun id l h => .inr ⟨id, l, h, rfl, fun _ => rfl⟩

theorem Ext.trans {R B : Nat} {ρ ρ1 ρ2 : Rho} {m m1 m2 : M} {w w1 w2 : World} (h : Ext R B ρ m w ρ1 m1 w1) (h' : Ext R B ρ1 m1 w1 ρ2 m2 w2) : Ext R B ρ m w ρ2 m2 w2 where
  le := Rho.le_trans h.le h'.le
  next := Nat.le_trans h.next h'.next
  none := fun id hn hlt => by
    obtain ⟨a, b⟩ := h.none id hn hlt
    obtain ⟨c, d⟩ := h'.none id a (Nat.lt_of_lt_of_le hlt h.next)
    exact ⟨c, d.trans b⟩
  ro := fun id hlt => by
    obtain ⟨a, b⟩ := h.ro id hlt
    obtain ⟨c, d⟩ := h'.ro id hlt
    exact ⟨c.trans a, d.trans b⟩
  high := fun id hge => by
    obtain ⟨a, b⟩ := h.high id hge
    obtain ⟨c, d⟩ := h'.high id hge
    exact ⟨c.trans a, fun l hl => (d l (a.trans hl)).trans (b l hl)⟩
  os := h'.os.trans h.os
  tape := h'.tape.trans h.tape
  output := h'.output.trans h.output
  size := Nat.le_trans h.size h'.size
  keep := fun b hb hk => by
    refine (h'.keep b (Nat.lt_of_lt_of_le hb h.size) fun id l hl e => ?_).trans (h.keep b hb hk)
    rcases h.own id l hl with h1 | ⟨id', l', h1, h2, h3⟩
    · omega
    · have := hk id' l' h1 (h2.trans e)
      rw [← h3 this]; exact this
  own := fun id l hl => by
    rcases h'.own id l hl with h1 | ⟨id', l', h1, h2, h3⟩
    · exact .inl (Nat.le_trans h.size h1)
    · rcases h.own id' l' h1 with h4 | ⟨id'', l'', h4, h5, h6⟩
      · exact .inl (h2 ▸ h4)
      · refine .inr ⟨id'', l'', h4, h5.trans h2, fun hlt => ?_⟩
        have e := h6 hlt
        subst e
        exact h3 hlt

end Go.HM
