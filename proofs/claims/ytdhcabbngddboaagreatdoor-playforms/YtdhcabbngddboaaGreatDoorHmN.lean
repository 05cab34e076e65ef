import Derived.Test.YtdhcabbngddboaaGreatDoorHmM
import Derived.OrdersIn
import Derived.LoopNIn
set_option linter.unusedVariables false
set_option linter.unusedSimpArgs false
namespace Go.HM

mutual
theorem plain_VR : ∀ (n : Nat) (v : Value), plain n v = true → ∀ ρ, VR ρ v v
  | 0, v, h, ρ => by cases v <;> simp [plain] at h
  | n + 1, v, h, ρ => by
    cases v with
    | bool b => exact .bool b
    | int k n => exact .int k n
    | string s => exact .string s
    | pointer a => cases a with | none => exact .nilp | some a => simp [plain] at h
    | map a => cases a with | none => exact .nilm | some a => simp [plain] at h
    | nilFunc => exact .nilf
    | nilIface => exact .nili
    | slice a l c =>
      cases a with
      | some a => simp [plain] at h
      | none =>
        cases l with
        | succ l => simp [plain] at h
        | zero => cases c with | zero => exact .nils 0 rfl | succ c => simp [plain] at h
    | iface t v => simp only [plain] at h; exact .iface t (plain_VR n v h ρ)
    | agg a => simp only [plain] at h; exact .agg (plains_VR n a.toList h ρ)
    | tuple a => simp only [plain] at h; exact .tuple (plains_VR n a.toList h ρ)
    | func f a b => simp only [plain, Bool.and_eq_true] at h; exact .func f (plains_VR n a.toList h.1 ρ) (plains_VR n b.toList h.2 ρ)
    | _ => simp [plain] at h
theorem plains_VR : ∀ (n : Nat) (l : List Value), plains n l = true → ∀ ρ, VRs ρ l l
  | _, [], _, ρ => .nil
  | 0, _ :: _, h, ρ => by simp [plains] at h
  | n + 1, a :: x, h, ρ => by simp only [plains, Bool.and_eq_true] at h; exact .cons (plain_VR n a h.1 ρ) (plains_VR n x h.2 ρ)
end

def HOp.opds : HOp → List Opd
  | .mv x => [x]
  | .p1 _ x => [x]
  | .p2 _ x y => [x, y]
  | .pn _ xs => xs
  | .rd _ xs => xs
  | .al _ xs => xs
  | .ef _ xs => xs
  | .call f xs => f :: xs
  | .inv _ x xs => x :: xs
  | .bad => []

/-- g finds the method by the dynamic type -/
def MethOK (P : Program) (name : String) (g : Value → Option (Nat × Value)) : Prop :=
  ∀ x f v, g x = some (f, v) → ∃ t, x = .iface t v ∧ ∀ (n : Nat) (v' : Value) (w : World), (Go.method (n + 1) t v' name).run P w = .ok (f, v') w

def OpOK (P : Program) (R G N : Nat) (o : Oper) (h : HOp) : Prop :=
  cOpds G N o.op.operands.toList = some h.opds ∧
  match h with
  | .mv _ => PureOK P o (f1 some)
  | .p1 f _ => PureOK P o (f1 f)
  | .p2 f _ _ => PureOK P o (f2 f)
  | .pn f _ => PureOK P o f
  | .rd f _ => ReadOK P o f
  | .al f _ => AllocOK P o f
  | .ef f _ => EffOK R P o f
  | .call _ _ => ∃ f args ats, o.op = .call { callee := .value f, args := args, argTypes := ats }
  | .inv g _ _ => ∃ recv name args ats, o.op = .call { callee := .invoke recv name, args := args, argTypes := ats } ∧ MethOK P name g
  | .bad => False

def FrR (N : Nat) (ρ : Rho) (fr : Fr) (tmps : Array Value) : Prop := tmps.size = N ∧ ∀ t, t < N → VR ρ (fr.get (Pt.ofNat t)) (tmps.getD t undef)
theorem FrR.mono {N : Nat} {ρ ρ' : Rho} (hl : ρ.le ρ') {fr : Fr} {tmps : Array Value} (h : FrR N ρ fr tmps) : FrR N ρ' fr tmps := ⟨h.1, fun t ht => (h.2 t ht).mono hl⟩
theorem Pt.ofNat_inj {a b : Nat} (h : Pt.ofNat a = Pt.ofNat b) : a = b := by
  have := congrArg Pt.toNat h
  rwa [Pt.toNat_ofNat, Pt.toNat_ofNat] at this
theorem FrR.put {N : Nat} {ρ : Rho} {fr : Fr} {a : Act} (h : FrR N ρ fr a.tmps) {d : Option Tmp} {v v' : Value} (hv : VR ρ v v') : FrR N ρ (putD (d.map Pt.ofNat) v fr) (a.put d v').tmps := by
  cases d with
  | none => exact h
  | some d =>
    refine ⟨by simp [Act.put, h.1], fun t ht => ?_⟩
    show VR ρ ((Fr.set (Pt.ofNat d) v fr).get (Pt.ofNat t)) ((a.tmps.setIfInBounds d v').getD t undef)
    rw [Fr.get_set]
    by_cases e : t = d
    · subst e
      rw [if_pos rfl]
      have : (a.tmps.setIfInBounds t v').getD t undef = v' := by
        simp [Array.getD_eq_getD_getElem?, h.1, ht]
      rw [this]; exact hv
    · rw [if_neg (fun h => e (Pt.ofNat_inj h))]
      have : (a.tmps.setIfInBounds d v').getD t undef = a.tmps.getD t undef := by
        simp only [Array.getD_eq_getD_getElem?]
        rw [Array.getElem?_setIfInBounds_ne (fun h => e h.symm)]
      rw [this]; exact h.2 t ht
theorem opd_rel {G N B : Nat} {ρ : Rho} {m : M} {w : World} {fr : Fr} {a : Act} (hs : Sim G B ρ m w) (hf : FrR N ρ fr a.tmps) {x : Operand} {y : Opd} (h : cOpd G N x = some y) : VR ρ (ev fr y) (a.eval x) := by
  cases x with
  | tmp t =>
    simp only [cOpd] at h
    cases hb : Nat.blt t N with
    | false => rw [hb] at h; simp at h
    | true =>
      rw [hb] at h; cases h
      exact hf.2 t (Nat.lt_of_succ_le (Nat.le_of_ble_eq_true hb))
  | const v =>
    simp only [cOpd] at h
    cases hb : plain 100 v with
    | false => rw [hb] at h; simp at h
    | true => rw [hb] at h; cases h; exact plain_VR _ _ hb ρ
  | global g =>
    simp only [cOpd] at h
    cases hb : Nat.blt g G with
    | false => rw [hb] at h; simp at h
    | true =>
      rw [hb] at h; cases h
      obtain ⟨t, ht⟩ := hs.glob g (Nat.lt_of_succ_le (Nat.le_of_ble_eq_true hb))
      exact .ptr ⟨rfl, rfl, _, ht, fun l e => by cases t <;> cases e; exact ⟨rfl, rfl⟩⟩
  | func f => simp only [cOpd] at h; cases h; exact .func _ .nil .nil
theorem opds_rel {G N B : Nat} {ρ : Rho} {m : M} {w : World} {fr : Fr} {a : Act} (hs : Sim G B ρ m w) (hf : FrR N ρ fr a.tmps) : ∀ {xs : List Operand} {ys : List Opd}, cOpds G N xs = some ys → VRs ρ (evs fr ys) (xs.map a.eval) := by
  intro xs
  induction xs with
  | nil => intro ys h; simp only [cOpds] at h; cases h; exact .nil
  | cons x xs ih =>
    intro ys h
    simp only [cOpds] at h
    split at h
    · rename_i y ys' h1 h2
      cases h
      exact .cons (opd_rel hs hf h1) (ih h2)
    · cases h

/-- a function with a body, that is entered like any other -/
def Enters (P : Program) (g : Nat) : Prop := ∃ fn, P.funcs[g]? = some fn ∧ fn.body.isSome = true ∧ fn.name ≠ "runtime.NumGoroutine"

def SimCall (P : Program) (R G : Nat) (g : Nat) (args : List Value) (s : M) (v : Value) (s' : M) : Prop :=
  R ≤ s.next → ∀ (B : Nat) (ρ : Rho) (w : World) (args' : List Value), Sim G B ρ s w → s'.next ≤ B → VRs ρ args args' →
    Calls P g ⟨args'⟩ w fun e w' => ∃ v' ρ', e = .returned v' ∧ VR ρ' v v' ∧ Ext R B ρ s w ρ' s' w' ∧ Sim G B ρ' s' w'
def CallOK (P : Program) (R G : Nat) (call : CallF) : Prop :=
  ∀ g args s k r, call g args s k = some r → ∃ v s', (∀ k2, call g args s k2 = k2 v s') ∧ s.next ≤ s'.next ∧ Enters P g ∧ SimCall P R G g args s v s'

/-- no fence at all; r: the round of a range over a function that the code stands in -/
abbrev Wd (r : Option Nat) : Fence := { Fence.wide with round := r }
theorem calls_in {P : Program} {f : FuncId} {args : Array Value} {w : World} {R : Ending → World → Prop} {r : Option Nat} {n : Nat} (h : Calls P f args w R) : CallsIn (Wd r) n P f args w R := (callsIn_wide (n := n)).2 h
abbrev NoD (o : Oper) : Prop := ∀ c, o.op ≠ .defer c

/-- what an operation told, and what that says of the world -/
def Told (P : Program) (R G N : Nat) (o : Oper) (fr : Fr) (s : M) (v : Value) (s' : M) : Prop :=
  ∀ (B : Nat) (ρ : Rho) (w : World) (a : Act), Sim G B ρ s w → FrR N ρ fr a.tmps → R ≤ s.next → s'.next ≤ B → ∀ r K Q, (∀ v' ρ' w', VR ρ' v v' → Ext R B ρ s w ρ' s' w' → Sim G B ρ' s' w' → K (a.put o.dst v') w') → o.wpIn (Wd r) 0 P a w K Q

theorem kO_some {k : Value → Res} {x : Option Value} {r : Value × M} (h : kO k x = some r) : ∃ v, x = some v ∧ k v = some r := by
  cases x with
  | none => cases h
  | some v => exact ⟨v, rfl, h⟩
theorem kM_some {k : KV} {x : Option (Value × M)} {r : Value × M} (h : kM k x = some r) : ∃ v s, x = some (v, s) ∧ k v s = some r := by
  cases x with
  | none => cases h
  | some p => exact ⟨p.1, p.2, rfl, h⟩

theorem wp_value {P : Program} {o : Oper} {a : Act} {w w' : World} {v : Value} {r : Option Nat} {K : Act → World → Prop} {Q : Exit → Act → World → Prop} (hd : NoD o) (h : (execOp a.eval o).run P w = .ok (.value v) w') (hk : K (a.put o.dst v) w') : o.wpIn (Wd r) 0 P a w K Q :=
  ⟨fun _ _ => trivial, by rw [Oper.semAt_eq _ _ _ hd, h]; exact hk⟩
theorem wp_skip' {P : Program} {o : Oper} {a : Act} {w w' : World} {r : Option Nat} {K : Act → World → Prop} {Q : Exit → Act → World → Prop} (hd : NoD o) (h : (execOp a.eval o).run P w = .ok .skip w') (hk : K (a.put o.dst undef) w') : o.wpIn (Wd r) 0 P a w K Q :=
  ⟨fun _ _ => trivial, by rw [Oper.semAt_eq _ _ _ hd, h]; exact hk⟩

theorem told_pure {P : Program} {R G N : Nat} {o : Oper} {g : FN} {xs : List Opd} {fr : Fr} {s : M} {v : Value} (hd : NoD o) (hx : cOpds G N o.op.operands.toList = some xs) (hok : PureOK P o g) (hv : g (evs fr xs) = some v) : Told P R G N o fr s v s := by
  intro B ρ w a hs hf _ _ r K Q hk
  obtain ⟨v', h1, h2⟩ := hok ρ w a.eval _ v (opds_rel hs hf hx) hv
  exact wp_value hd h1 (hk v' ρ w h2 (Ext.refl _ _ _ _ _) hs)
theorem told_read {P : Program} {R G N : Nat} {o : Oper} {g : RD} {xs : List Opd} {fr : Fr} {s : M} {v : Value} (hd : NoD o) (hx : cOpds G N o.op.operands.toList = some xs) (hok : ReadOK P o g) (hv : g (evs fr xs) s = some v) : Told P R G N o fr s v s := by
  intro B ρ w a hs hf _ _ r K Q hk
  obtain ⟨v', h1, h2⟩ := hok G B ρ s w a.eval _ v hs (opds_rel hs hf hx) hv
  exact wp_value hd h1 (hk v' ρ w h2 (Ext.refl _ _ _ _ _) hs)
theorem told_alloc {P : Program} {R G N : Nat} {o : Oper} {g : AL} {xs : List Opd} {fr : Fr} {s : M} {ho : HO} {mk : Nat → Value} (hd : NoD o) (hx : cOpds G N o.op.operands.toList = some xs) (hok : AllocOK P o g) (hv : g (evs fr xs) = some (ho, mk)) :
    Told P R G N o fr s (mk s.next) (alloc s ho) := by
  intro B ρ w a hs hf hR hB r K Q hk
  obtain ⟨c, w', v', tot, h1, h2, h3⟩ := hok ρ w a.eval _ ho mk (opds_rel hs hf hx) hv
  obtain ⟨e1, e2⟩ := sim_alloc (R := R) (tot := tot) hs hR hB h2 (fun ρ' hle hid => (h3 _ _ hle hid).1)
  exact wp_value hd h1 (hk v' _ w' (h3 _ _ e1.le (upd_same _ _ _)).2 e1 e2)
theorem told_eff {P : Program} {R G N : Nat} (hG : G ≤ R) {o : Oper} {g : EF} {xs : List Opd} {fr : Fr} {s s' : M} {v : Value} (hd : NoD o) (hx : cOpds G N o.op.operands.toList = some xs) (hok : EffOK R P o g) (hv : g (evs fr xs) s = some (v, s')) : Told P R G N o fr s v s' := by
  intro B ρ w a hs hf _ hB r K Q hk
  obtain ⟨v', w', ρ', h1, h2, h3, h4⟩ := hok.2 G B ρ s w a.eval _ v s' hG hs hB (opds_rel hs hf hx) hv
  rcases h1 with h1 | ⟨h1, rfl⟩
  · exact wp_value hd h1 (hk v' ρ' w' h2 h3 h4)
  · exact wp_skip' hd h1 (hk _ ρ' w' h2 h3 h4)
theorem told_call {P : Program} {R G N : Nat} {o : Oper} {f : Operand} {args : Array Operand} {ats : Array TypeId} {y : Opd} {xs : List Opd} {fr : Fr} {s s' : M} {v : Value} {g : Nat} {first captured : Array Value}
    (ho : o.op = .call { callee := .value f, args := args, argTypes := ats }) (hx : cOpds G N o.op.operands.toList = some (y :: xs)) (hf : ev fr y = .func (.func g) first captured) (he : Enters P g)
    (hc : SimCall P R G g (first.toList ++ (evs fr xs ++ captured.toList)) s v s') : Told P R G N o fr s v s' := by
  intro B ρ w a hs hfr hRn hB r K Q hk
  have hrel := opds_rel hs hfr hx
  have hops : o.op.operands.toList.map a.eval = a.eval f :: args.toList.map a.eval := by rw [ho]; simp [Op.operands, Call.operands]
  rw [hops] at hrel
  cases hrel with
  | cons h1 h2 =>
    rw [hf] at h1
    generalize hfe : a.eval f = fe at h1
    cases h1 with
    | func _ q1 q2 =>
      rename_i fs0 fs cs0 cs
      obtain ⟨fn, e1, e2, e3⟩ := he
      have hrun : (execOp a.eval o).run P w = .ok (.enter g (⟨fs⟩ ++ args.map a.eval ++ ⟨cs⟩)) w := by
        unfold execOp; rw [ho]
        have hb : fn.body.isNone = false := by cases hbo : fn.body <;> simp [hbo] at e2 ⊢
        simp only [resolve, Sem.run_bind, Sem.run_pure, Result.andThen_ok, hfe, Deferred.ofValue, invoke, callFunc, run_program, e1]
        simp [e3, hb]
      refine ⟨fun _ _ => trivial, ?_⟩
      rw [Oper.semAt_eq _ _ _ (fun c e => by rw [ho] at e; cases e), hrun]
      have hargs : (⟨fs⟩ ++ args.map a.eval ++ ⟨cs⟩ : Array Value) = ⟨fs ++ (args.toList.map a.eval ++ cs)⟩ := by apply Array.ext'; simp
      rw [Oper.uponIn_enter, hargs]
      refine ⟨fun h => (by cases h), calls_in ((hc hRn B ρ w _ hs hB (q1.append (h2.append q2))).mono ?_)⟩
      rintro e w' ⟨v', ρ', rfl, r1, r2, r3⟩
      exact hk v' ρ' w' r1 r2 r3

theorem told_inv {P : Program} {R G N : Nat} {o : Oper} {recv : Operand} {name : String} {args : Array Operand} {ats : Array TypeId} {y : Opd} {xs : List Opd} {fr : Fr} {s s' : M} {v vr : Value} {g : Nat} {gm : Value → Option (Nat × Value)}
    (ho : o.op = .call { callee := .invoke recv name, args := args, argTypes := ats }) (hx : cOpds G N o.op.operands.toList = some (y :: xs)) (hm : MethOK P name gm) (hf : gm (ev fr y) = some (g, vr)) (he : Enters P g)
    (hc : SimCall P R G g (vr :: evs fr xs) s v s') : Told P R G N o fr s v s' := by
  intro B ρ w a hs hfr hRn hB r K Q hk
  have hrel := opds_rel hs hfr hx
  have hops : o.op.operands.toList.map a.eval = a.eval recv :: args.toList.map a.eval := by rw [ho]; simp [Op.operands, Call.operands]
  rw [hops] at hrel
  cases hrel with
  | cons h1 h2 =>
    obtain ⟨t, e0, hmeth⟩ := hm _ _ _ hf
    rw [show ev fr y = .iface t vr from e0] at h1
    generalize hfe : a.eval recv = fe at h1
    cases h1 with
    | iface _ hv =>
      rename_i vr'
      obtain ⟨fn, e1, e2, e3⟩ := he
      have hrun : (execOp a.eval o).run P w = .ok (.enter g (#[vr'] ++ args.map a.eval)) w := by
        unfold execOp; rw [ho]
        have hb : fn.body.isNone = false := by
          cases hbo : fn.body with
          | none => rw [hbo] at e2; cases e2
          | some c => rfl
        have hmm : (Go.method (P.types.size + Made.depth) t vr' name).run P w = .ok (g, vr') w := by
          have h9 := hmeth (P.types.size + Made.depth - 1) vr' w
          rwa [show P.types.size + Made.depth - 1 + 1 = P.types.size + Made.depth from by have : Made.depth = 100 := rfl; omega] at h9
        have hget : (#[Value.iface t vr'] ++ args.map a.eval)[0]? = some (.iface t vr') := by rw [Array.getElem?_append_left (by simp)]; rfl
        have hext : (#[Value.iface t vr'] ++ args.map a.eval).extract 1 (#[Value.iface t vr'] ++ args.map a.eval).size = args.map a.eval := by
          apply Array.ext'; rw [Array.toList_extract]; simp [List.extract_eq_take_drop]; exact List.take_of_length_le (by simp)
        simp only [resolve, Sem.run_bind, Sem.run_pure, Result.andThen_ok, hfe, invoke, hget, hext, callMethod, run_program, hmm, callFunc, e1]
        simp [e3, hb]
      refine ⟨fun _ _ => trivial, ?_⟩
      rw [Oper.semAt_eq _ _ _ (fun c e => by rw [ho] at e; cases e), hrun]
      have hargs : (#[vr'] ++ args.map a.eval : Array Value) = ⟨vr' :: args.toList.map a.eval⟩ := by apply Array.ext'; simp
      rw [Oper.uponIn_enter, hargs]
      refine ⟨fun h => (by cases h), calls_in ((hc hRn B ρ w _ hs hB (.cons hv h2)).mono ?_)⟩
      rintro e w' ⟨v', ρ', rfl, r1, r2, r3⟩
      exact hk v' ρ' w' r1 r2 r3

/-- an operation of the evaluator is told by the model -/
theorem doOp_told {P : Program} {R G N : Nat} (hG : G ≤ R) {call : CallF} (hcall : CallOK P R G call) {o : Oper} {h : HOp} (hok : h = .bad ∨ (OpOK P R G N o h ∧ NoD o)) {fr : Fr} {s : M} {k : KV} {r : Value × M} (hr : doOp call fr s k h = some r) :
    ∃ v s', k v s' = some r ∧ s.next ≤ s'.next ∧ (∀ k2, doOp call fr s k2 h = k2 v s') ∧ Told P R G N o fr s v s' := by
  rcases hok with rfl | ⟨⟨hx, hok⟩, hd⟩
  · cases hr
  cases h with
  | mv x => exact ⟨ev fr x, s, hr, Nat.le_refl _, fun k2 => rfl, told_pure hd hx hok rfl⟩
  | p1 f x => obtain ⟨v, h1, h2⟩ := kO_some hr; exact ⟨v, s, h2, Nat.le_refl _, fun k2 => by show kO _ (f (ev fr x)) = _; rw [h1]; rfl, told_pure hd hx hok h1⟩
  | p2 f x y => obtain ⟨v, h1, h2⟩ := kO_some hr; exact ⟨v, s, h2, Nat.le_refl _, fun k2 => by show kO _ (f (ev fr x) (ev fr y)) = _; rw [h1]; rfl, told_pure hd hx hok h1⟩
  | pn f xs => obtain ⟨v, h1, h2⟩ := kO_some hr; exact ⟨v, s, h2, Nat.le_refl _, fun k2 => by show kO _ (f (evs fr xs)) = _; rw [h1]; rfl, told_pure hd hx hok h1⟩
  | rd f xs => obtain ⟨v, h1, h2⟩ := kO_some hr; exact ⟨v, s, h2, Nat.le_refl _, fun k2 => by show kO _ (f (evs fr xs) s) = _; rw [h1]; rfl, told_read hd hx hok h1⟩
  | al f xs =>
    have hr' : kA s k (f (evs fr xs)) = some r := (opK_al call f xs fr s k).symm.trans hr
    cases hf : f (evs fr xs) with
    | none => rw [hf] at hr'; cases hr'
    | some p => rw [hf] at hr'; exact ⟨_, _, hr', Nat.le_succ _, fun k2 => by show opK (.al f xs) call fr s k2 = _; rw [opK_al, hf]; rfl, told_alloc hd hx hok hf⟩
  | ef f xs => obtain ⟨v, s', h1, h2⟩ := kM_some ((opK_ef call f xs fr s k).symm.trans hr); exact ⟨v, s', h2, hok.1 _ _ _ _ h1, fun k2 => by show opK (.ef f xs) call fr s k2 = _; rw [opK_ef, h1]; rfl, told_eff hG hd hx hok h1⟩
  | call f xs =>
    obtain ⟨f', args, ats, ho⟩ := hok
    have hr' : callV call (evs fr xs) s k (ev fr f) = some r := hr
    unfold callV at hr'
    split at hr'
    · rename_i g first captured hev
      obtain ⟨v, s', h1, hm, h2, h3⟩ := hcall _ _ _ _ _ hr'
      exact ⟨v, s', (h1 k).symm.trans hr', hm, fun k2 => by show callV call (evs fr xs) s k2 (ev fr f) = _; rw [hev]; exact h1 k2, told_call ho hx hev h2 h3⟩
    · cases hr'
  | inv gm x xs =>
    obtain ⟨recv, name, args, ats, ho, hm⟩ := hok
    have hr' : invV call (evs fr xs) s k (gm (ev fr x)) = some r := hr
    cases hg : gm (ev fr x) with
    | none => rw [hg] at hr'; cases hr'
    | some p =>
      obtain ⟨g, vr⟩ := p
      rw [hg] at hr'
      obtain ⟨v, s', h1, hm2, h2, h3⟩ := hcall _ _ _ _ _ (show call g (vr :: evs fr xs) s k = some r from hr')
      exact ⟨v, s', (h1 k).symm.trans hr', hm2, fun k2 => by show invV call (evs fr xs) s k2 (gm (ev fr x)) = _; rw [hg]; exact h1 k2, told_inv ho hx hm hg h2 h3⟩
  | bad => exact hok.elim
end Go.HM
