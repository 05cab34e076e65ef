import Derived.Test.YtdhcabbngddboaaGreatDoorHmW
set_option linter.unusedVariables false
set_option linter.unusedSimpArgs false
namespace Go.HM

/-! ### memory is held against memory -/
def beqQ : Value → Value → Bool
  | .int .u8 x, .int .u8 y => beqInt x y
  | a, b => beqV 1000 a b
theorem beqQ_eq {a b : Value} (h : beqQ a b = true) : a = b := by
  unfold beqQ at h
  split at h
  · rw [beqInt_iff.1 h]
  · exact beqV_eq _ _ _ h
noncomputable def beqL (a : List Value) : List Value → Bool :=
  List.rec (motive := fun _ => List Value → Bool) (fun b => List.rec (motive := fun _ => Bool) true (fun _ _ _ => false) b)
    (fun x _ ih b => List.rec (motive := fun _ => Bool) false (fun y r _ => Bool.rec (motive := fun _ => Bool) false (ih r) (beqQ x y)) b) a
theorem beqL_eq : ∀ {a b : List Value}, beqL a b = true → a = b := by
  intro a
  induction a with
  | nil => intro b h; cases b with | nil => rfl | cons y r => cases h
  | cons x a ih =>
    intro b h
    cases b with
    | nil => cases h
    | cons y r =>
      have h' : Bool.rec (motive := fun _ => Bool) false (beqL a r) (beqQ x y) = true := h
      cases hq : beqQ x y with
      | false => rw [hq] at h'; cases h'
      | true => rw [hq] at h'; rw [beqQ_eq hq, ih h']
def beqP : List (Value × Value) → List (Value × Value) → Bool
  | [], [] => true
  | (a, b) :: x, (c, d) :: y => beqQ a c && (beqQ b d && beqP x y)
  | _, _ => false
theorem beqP_eq : ∀ {a b : List (Value × Value)}, beqP a b = true → a = b := by
  intro a
  induction a with
  | nil => intro b h; cases b with | nil => rfl | cons y r => simp [beqP] at h
  | cons x a ih =>
    intro b h
    cases b with
    | nil => simp [beqP] at h
    | cons y r =>
      obtain ⟨x1, x2⟩ := x
      obtain ⟨y1, y2⟩ := y
      simp only [beqP, Bool.and_eq_true] at h
      rw [beqQ_eq h.1, beqQ_eq h.2.1, ih h.2.2]
noncomputable def beqHO : HO → HO → Bool
  | .no, .no => true
  | .cells a, .cells b => beqL a b
  | .ext a, .ext b => beqL a b
  | .map a, .map b => beqP a b
  | .iter s p, .iter t q => beqBytes s.data.toList t.data.toList && Nat.beq p q
  | _, _ => false
theorem beqHO_eq {a b : HO} (h : beqHO a b = true) : a = b := by
  unfold beqHO at h
  split at h
  · rfl
  · rw [beqL_eq h]
  · rw [beqL_eq h]
  · rw [beqP_eq h]
  · simp only [Bool.and_eq_true] at h
    rw [Nat.eq_of_beq_eq_true h.2]
    congr 1
    exact bytes_ext (beqBytes_iff.1 h.1)
  · cases h
def isNo : HO → Bool | .no => true | _ => false
/-- of a memory: nothing but what is new -/
noncomputable def newTM (n0 : Nat) (t : TM) : Nat → Nat → Bool :=
  TM.rec (motive := fun _ => Nat → Nat → Bool) (fun _ _ => true)
    (fun _ v _ ihl ihr c m => (isNo v || Nat.ble n0 c) && (ihl (Nat.add c m) (Nat.mul 2 m) && ihr (Nat.add c (Nat.mul 2 m)) (Nat.mul 2 m))) t
/-- the same memory, but for new objects that are dropped -/
noncomputable def subTM (n0 : Nat) (t : TM) : TM → Nat → Nat → Bool :=
  TM.rec (motive := fun _ => TM → Nat → Nat → Bool) (fun u _ _ => TM.rec (motive := fun _ => Bool) true (fun _ _ _ _ _ => false) u)
    (fun l v r ihl ihr u c m => TM.rec (motive := fun _ => Bool) (newTM n0 (.nd l v r) c m)
      (fun l' v' r' _ _ => (Bool.rec (motive := fun _ => Bool) (beqHO v v') (isNo v || Nat.ble n0 c) (isNo v')) && (ihl l' (Nat.add c m) (Nat.mul 2 m) && ihr r' (Nat.add c (Nat.mul 2 m)) (Nat.mul 2 m))) u) t
theorem isNo_eq {o : HO} (h : isNo o = true) : o = .no := by cases o <;> first | rfl | cases h
theorem newTM_spec {n0 : Nat} : ∀ {t : TM} {c m : Nat}, newTM n0 t c m = true → ∀ j, t.get j = .no ∨ n0 ≤ c + m * j := by
  intro t
  induction t with
  | lf => intro c m _ j; exact .inl rfl
  | nd l v r ihl ihr =>
    intro c m h j
    have h' : ((isNo v || Nat.ble n0 c) && (newTM n0 l (Nat.add c m) (Nat.mul 2 m) && newTM n0 r (Nat.add c (Nat.mul 2 m)) (Nat.mul 2 m))) = true := h
    simp only [Bool.and_eq_true, Bool.or_eq_true] at h'
    rw [TM.get_nd]
    by_cases h0 : j = 0
    · subst h0
      rw [if_pos rfl]
      rcases h'.1 with h1 | h1
      · exact .inl (isNo_eq h1)
      · right; have := Nat.le_of_ble_eq_true h1; omega
    · rw [if_neg h0]
      by_cases h1 : j % 2 = 1
      · rw [if_pos h1]
        rcases ihl h'.2.1 (j / 2) with h2 | h2
        · exact .inl h2
        · right
          have e : j = 2 * (j / 2) + 1 := by omega
          have : c + m * j = Nat.add c m + Nat.mul 2 m * (j / 2) := by
            show _ = c + m + 2 * m * (j / 2)
            conv => lhs; rw [e]
            rw [Nat.mul_add, Nat.mul_one, ← Nat.mul_assoc, Nat.mul_comm m 2]; omega
          omega
      · rw [if_neg h1]
        rcases ihr h'.2.2 (j / 2 - 1) with h2 | h2
        · exact .inl h2
        · right
          have e : j = 2 * (j / 2 - 1) + 2 := by omega
          have : c + m * j = Nat.add c (Nat.mul 2 m) + Nat.mul 2 m * (j / 2 - 1) := by
            show _ = c + 2 * m + 2 * m * (j / 2 - 1)
            conv => lhs; rw [e]
            rw [Nat.mul_add, ← Nat.mul_assoc, Nat.mul_comm m 2]; omega
          omega
theorem subTM_spec {n0 : Nat} : ∀ {t u : TM} {c m : Nat}, subTM n0 t u c m = true → ∀ j, u.get j = t.get j ∨ (u.get j = .no ∧ n0 ≤ c + m * j) := by
  intro t
  induction t with
  | lf =>
    intro u c m h j
    cases u with
    | lf => exact .inl rfl
    | nd l v r => cases h
  | nd l v r ihl ihr =>
    intro u c m h j
    cases u with
    | lf =>
      rcases newTM_spec (show newTM n0 (.nd l v r) c m = true from h) j with h1 | h1
      · exact .inl (by rw [h1]; rfl)
      · exact .inr ⟨rfl, h1⟩
    | nd l' v' r' =>
      have h' : ((Bool.rec (motive := fun _ => Bool) (beqHO v v') (isNo v || Nat.ble n0 c) (isNo v')) && (subTM n0 l l' (Nat.add c m) (Nat.mul 2 m) && subTM n0 r r' (Nat.add c (Nat.mul 2 m)) (Nat.mul 2 m))) = true := h
      simp only [Bool.and_eq_true] at h'
      rw [TM.get_nd, TM.get_nd]
      by_cases h0 : j = 0
      · subst h0
        rw [if_pos rfl, if_pos rfl]
        have h1 := h'.1
        cases hn : isNo v' with
        | false => rw [hn] at h1; exact .inl (beqHO_eq h1).symm
        | true =>
          rw [hn] at h1
          simp only [Bool.or_eq_true] at h1
          have e := isNo_eq hn
          rcases h1 with h1 | h1
          · left; rw [e, isNo_eq h1]
          · right; exact ⟨e, by have := Nat.le_of_ble_eq_true h1; omega⟩
      · rw [if_neg h0, if_neg h0]
        by_cases h1 : j % 2 = 1
        · rw [if_pos h1, if_pos h1]
          rcases ihl h'.2.1 (j / 2) with h2 | ⟨h2, h3⟩
          · exact .inl h2
          · right
            have e : j = 2 * (j / 2) + 1 := by omega
            have : c + m * j = Nat.add c m + Nat.mul 2 m * (j / 2) := by
              show _ = c + m + 2 * m * (j / 2)
              conv => lhs; rw [e]
              rw [Nat.mul_add, Nat.mul_one, ← Nat.mul_assoc, Nat.mul_comm m 2]; omega
            exact ⟨h2, by omega⟩
        · rw [if_neg h1, if_neg h1]
          rcases ihr h'.2.2 (j / 2 - 1) with h2 | ⟨h2, h3⟩
          · exact .inl h2
          · right
            have e : j = 2 * (j / 2 - 1) + 2 := by omega
            have : c + m * j = Nat.add c (Nat.mul 2 m) + Nat.mul 2 m * (j / 2 - 1) := by
              show _ = c + 2 * m + 2 * m * (j / 2 - 1)
              conv => lhs; rw [e]
              rw [Nat.mul_add, ← Nat.mul_assoc, Nat.mul_comm m 2]; omega
            exact ⟨h2, by omega⟩

/-! ### what is dropped behind a call -/
open Classical in
theorem SimCall.drop {P : Program} {R G g : Nat} {args : List Value} {s s' s2 : M} {v : Value} (hG : G ≤ R) (h : SimCall P R G g args s v s') (hn : s2.next = s'.next) (hm : ∀ j, s2.mem.get j = s'.mem.get j ∨ (s2.mem.get j = .no ∧ s.next ≤ j)) : SimCall P R G g args s v s2 := by
  intro hR B ρ w args' hs hB ha
  refine (h hR B ρ w args' hs (by rw [← hn]; exact hB) ha).mono ?_
  rintro e w' ⟨v', ρ', rfl, hv, hx, hsim⟩
  let D : Nat → Prop := fun j => s2.mem.get j ≠ s'.mem.get j
  let ρ2 : Rho := fun j => if D j then (match ρ' j with | some (.live _) => some .dead | x => x) else ρ' j
  have hD : ∀ j, D j → s2.mem.get j = .no ∧ s.next ≤ j ∧ s'.mem.get j ≠ .no := by
    intro j hj
    rcases hm j with h1 | ⟨h1, h2⟩
    · exact absurd h1 hj
    · exact ⟨h1, h2, fun h3 => hj (h1.trans h3.symm)⟩
  have hDB : ∀ j, D j → j < B ∧ j < s'.next := by
    intro j hj
    obtain ⟨_, _, h3⟩ := hD j hj
    constructor
    · rcases Nat.lt_or_ge j B with h4 | h4
      · exact h4
      · exact absurd (hsim.high j (.inl h4)) h3
    · rcases Nat.lt_or_ge j s'.next with h4 | h4
      · exact h4
      · exact absurd (hsim.high j (.inr h4)) h3
  have h2n : ∀ j, ¬ D j → ρ2 j = ρ' j := fun j hj => if_neg hj
  have h2y : ∀ j, D j → ρ2 j = (match ρ' j with | some (.live _) => some .dead | x => x) := fun j hj => if_pos hj
  have hnD : ∀ j, ¬ D j → s2.mem.get j = s'.mem.get j := fun j hj => Classical.byContradiction hj
  have hlive : ∀ j l, ρ2 j = some (.live l) → ρ' j = some (.live l) ∧ ¬ D j := by
    intro j l hj
    by_cases hd : D j
    · rw [h2y j hd] at hj
      cases hr : ρ' j with
      | none => rw [hr] at hj; cases hj
      | some st => rw [hr] at hj; cases st <;> cases hj
    · rw [h2n j hd] at hj; exact ⟨hj, hd⟩
  have hle : ρ'.le ρ2 := by
    intro j st hj
    by_cases hd : D j
    · cases st with
      | live l => exact ⟨.dead, by rw [h2y j hd, hj], .inr ⟨rfl, l, rfl⟩⟩
      | dead => exact ⟨.dead, by rw [h2y j hd, hj], .inl rfl⟩
      | «at» a => exact ⟨.at a, by rw [h2y j hd, hj], .inl rfl⟩
    · exact ⟨st, by rw [h2n j hd]; exact hj, .inl rfl⟩
  refine ⟨v', ρ2, rfl, hv.mono hle, ⟨Rho.le_trans hx.le hle, by rw [hn]; exact hx.next, fun id h1 h2 => ?_, fun id h1 => ?_, fun id h1 => ?_, hx.os, hx.tape, hx.output, hx.size, hx.keep, fun id l h1 => hx.own id l (hlive id l h1).1⟩,
    ⟨fun id l h1 h2 => ?_, fun i j l l' h1 h2 => hsim.inj i j l l' (hlive i l h1).1 (hlive j l' h2).1, fun id l h1 => hsim.blk id l (hlive id l h1).1, fun id h1 h2 => ?_, fun id h1 => ?_, fun id h1 => ?_, fun g hg => ?_, fun id a h1 => ?_⟩⟩
  · have hd : ¬ D id := fun h => by have := (hD id h).2.1; omega
    obtain ⟨q1, q2⟩ := hx.none id h1 h2
    exact ⟨by rw [h2n id hd]; exact q1, by rw [hnD id hd]; exact q2⟩
  · have hd : ¬ D id := fun h => by have := (hD id h).2.1; omega
    obtain ⟨q1, q2⟩ := hx.ro id h1
    exact ⟨by rw [h2n id hd]; exact q1, by rw [hnD id hd]; exact q2⟩
  · have hd : ¬ D id := fun h => by have := (hDB id h).1; omega
    obtain ⟨q1, q2⟩ := hx.high id h1
    exact ⟨by rw [h2n id hd]; exact q1, q2⟩
  · obtain ⟨q1, q2⟩ := hlive id l h2
    rw [hnD id q2]
    exact (hsim.obj id l h1 q1).mono hle
  · rw [hn] at h1
    have hd : ¬ D id := fun h => by have := (hDB id h).2; omega
    rw [h2n id hd]; exact hsim.fresh id h1 h2
  · rw [hn] at h1
    have hd : ¬ D id := fun h => by have := hDB id h; omega
    rw [hnD id hd]; exact hsim.high id h1
  · by_cases hd : D id
    · exact (hD id hd).1
    · rw [h2n id hd] at h1; rw [hnD id hd]; exact hsim.dead id h1
  · have hd : ¬ D g := fun h => by have := (hD g h).2.1; omega
    rw [h2n g hd]; exact hsim.glob g hg
  · by_cases hd : D id
    · exact (hD id hd).1
    · rw [h2n id hd] at h1; rw [hnD id hd]; exact hsim.sat id a h1

theorem SimCall.congr {P : Program} {R G g : Nat} {args : List Value} {s t s' : M} {v : Value} (h : SimCall P R G g args s v s') (hn : t.next = s.next) (hm : ∀ j, t.mem.get j = s.mem.get j) : SimCall P R G g args t v s' := by
  intro hR B ρ w args' hs hB ha
  rw [hn] at hR
  have hs' : Sim G B ρ s w := ⟨fun id l h1 h2 => by rw [← hm]; exact hs.obj id l h1 h2, hs.inj, hs.blk, fun id h1 h2 => hs.fresh id (by rw [hn]; exact h1) h2, fun id h1 => by rw [← hm]; exact hs.high id (by rw [hn]; exact h1), fun id h1 => by rw [← hm]; exact hs.dead id h1, hs.glob, fun id a h1 => by rw [← hm]; exact hs.sat id a h1⟩
  refine (h hR B ρ w args' hs' hB ha).mono ?_
  rintro e w' ⟨v', ρ', rfl, hv, hx, hsim⟩
  exact ⟨v', ρ', rfl, hv, ⟨hx.le, by rw [hn]; exact hx.next, fun id h1 h2 => by rw [hm]; exact hx.none id h1 (by rw [← hn]; exact h2), fun id h1 => by rw [hm]; exact hx.ro id h1, hx.high, hx.os, hx.tape, hx.output, hx.size, hx.keep, hx.own⟩, hsim⟩

/-- what a run told, but for what is dropped -/
noncomputable def chk (r : Res) (v1 : Value) (s1 s2 : M) : Bool :=
  match r with
  | some (v, s') => beqQ v v1 && (Nat.beq s2.next s'.next && (Nat.ble s1.next s'.next && subTM s1.next s'.mem s2.mem 0 1))
  | none => false
theorem chk_spec {r : Res} {v1 : Value} {s1 s2 : M} (h : chk r v1 s1 s2 = true) : ∃ s', r = some (v1, s') ∧ s2.next = s'.next ∧ s1.next ≤ s'.next ∧ ∀ j, s2.mem.get j = s'.mem.get j ∨ (s2.mem.get j = .no ∧ s1.next ≤ j) := by
  unfold chk at h
  split at h
  · rename_i v s'
    simp only [Bool.and_eq_true] at h
    refine ⟨s', by rw [beqQ_eq h.1], Nat.eq_of_beq_eq_true h.2.1, Nat.le_of_ble_eq_true h.2.2.1, fun j => ?_⟩
    have := subTM_spec h.2.2.2 j
    simpa using this
  · cases h

/-- a call whose run is known: where it begins, what it tells -/
structure Known where
  args : List Value
  s : M
  v : Value
  s2 : M
noncomputable def knownF : List Known → (CallF → List Value → M → KV → Res) → CallF → List Value → M → KV → Res
  | [], f => f
  | k :: ks, f => fun call args s c => Bool.rec (motive := fun _ => Res) (knownF ks f call args s c) (c k.v k.s2) (Nat.beq s.next k.s.next && (beqL args k.args && subTM (Nat.succ s.next) s.mem k.s.mem 0 1))
noncomputable def codeF (h : HF) : CallF → List Value → M → KV → Res := fun call args s k => bif Nat.ble args.length h.nt then evB call h.body (retK h.res k) (args0 0 args .lf) s else none

def KnownOK (P : Program) (R G g : Nat) (k : Known) : Prop := k.s.next ≤ k.s2.next ∧ SimCall P R G g k.args k.s k.v k.s2 ∧ ∀ j, k.s.next < j → k.s.mem.get j = .no

theorem known_of {P : Program} {R G : Nat} (hG : G ≤ R) {fn : Nat → Option FD} (hfn : ∀ g d, fn g = some d → FDOK P R G g d) {n g : Nat} {k : Known} (h : chk (evF fn n g k.args k.s KS) k.v k.s k.s2 = true) (hno : ∀ j, k.s.next < j → k.s.mem.get j = .no) : KnownOK P R G g k ∧ Enters P g := by
  obtain ⟨s', h1, h2, h3, h4⟩ := chk_spec h
  obtain ⟨v, s3, u, hm, he, hsc⟩ := evF_ok hG hfn n g k.args k.s KS _ h1
  have := (u KS).symm.trans h1
  simp only [KS, Option.some.injEq, Prod.mk.injEq] at this
  obtain ⟨rfl, rfl⟩ := this
  exact ⟨⟨by omega, hsc.drop hG h2 h4, hno⟩, he⟩

theorem knownF_ok {P : Program} {R G g : Nat} (hG : G ≤ R) (he : Enters P g) {f : CallF → List Value → M → KV → Res} (hf : FDOK P R G g (.nat f)) : ∀ {ks : List Known}, (∀ k ∈ ks, KnownOK P R G g k) → FDOK P R G g (.nat (knownF ks f)) := by
  intro ks
  induction ks with
  | nil => intro _; exact hf
  | cons k ks ih =>
    intro hk call hcall args s c r hr
    have ih' := ih (fun x hx => hk x (List.mem_cons_of_mem _ hx)) call hcall args s c
    have hsh : ∀ c, knownF (k :: ks) f call args s c = Bool.rec (motive := fun _ => Res) (knownF ks f call args s c) (c k.v k.s2) (Nat.beq s.next k.s.next && (beqL args k.args && subTM (Nat.succ s.next) s.mem k.s.mem 0 1)) := fun _ => rfl
    rw [hsh] at hr
    cases hb : (Nat.beq s.next k.s.next && (beqL args k.args && subTM (Nat.succ s.next) s.mem k.s.mem 0 1)) with
    | false =>
      rw [hb] at hr
      obtain ⟨v, s', q1, q2⟩ := ih' r hr
      exact ⟨v, s', fun k2 => by rw [hsh, hb]; exact q1 k2, q2⟩
    | true =>
      rw [hb] at hr
      simp only [Bool.and_eq_true] at hb
      obtain ⟨k1, k2, k3⟩ := hk k List.mem_cons_self
      have e1 := Nat.eq_of_beq_eq_true hb.1
      have e2 := beqL_eq hb.2.1
      subst e2
      refine ⟨k.v, k.s2, fun k2 => by rw [hsh]; rw [show (Nat.beq s.next k.s.next && (beqL k.args k.args && subTM (Nat.succ s.next) s.mem k.s.mem 0 1)) = true by simp only [Bool.and_eq_true]; exact hb], by omega, he, fun hR B ρ w args' hs hB ha => ?_⟩
      have hall : ∀ j, s.mem.get j = k.s.mem.get j := by
        intro j
        rcases subTM_spec hb.2.2 j with h1 | ⟨h1, h2⟩
        · exact h1.symm
        · rw [h1]; exact hs.high j (.inr (by omega))
      exact k2.congr e1 hall hR B ρ w args' hs hB ha
theorem codeF_ok {P : Program} {R G g : Nat} (hG : G ≤ R) {fn : Func} {h : HF} (hfn : P.funcs[g]? = some fn) (hok : FnOK P R G fn h) : FDOK P R G g (.nat (codeF h)) := by
  intro call hcall args s k r hr
  have hsh : ∀ k, codeF h call args s k = bif Nat.ble args.length h.nt then evB call h.body (retK h.res k) (args0 0 args .lf) s else none := fun _ => rfl
  rw [hsh] at hr
  cases hb : Nat.ble args.length h.nt with
  | false => rw [hb] at hr; cases hr
  | true =>
    rw [hb] at hr
    obtain ⟨v, s', q1, q2, q3, q4⟩ := fn_sound hG hcall hfn hok (Nat.le_of_ble_eq_true hb) hr
    exact ⟨v, s', fun k2 => by rw [hsh, hb]; exact q1 k2, q2, q3, q4⟩
end Go.HM
