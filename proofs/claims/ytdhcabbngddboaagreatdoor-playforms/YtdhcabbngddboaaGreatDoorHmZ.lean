import Derived.Test.YtdhcabbngddboaaGreatDoorHmX
import Derived.Test.YtdhcabbngddboaaGreatDoorHmE2
set_option linter.unusedVariables false
set_option linter.unusedSimpArgs false
namespace Go.HM

section
variable {P : Program} {o : Oper}

/-! ### []byte of a literal: the row is marked -/
noncomputable def eMark (R : Nat) : EF
  | [.slice (some a) n c], m => bif Nat.ble R a.block && (Nat.blt 0 (c / 512) && isCl (m.mem.get a.block)) then some (.slice (some a) n c, ⟨m.next, m.mem.set a.block (m.mem.get a.block)⟩) else none
  | _, _ => none

theorem freeze_eq {w : World} {b n : Nat} {c : Array Value} {e : TypeId} {fz : Nat × Nat} (h : w.heap[b]? = some (.cells c e fz)) :
    w.freeze ⟨b, n, none⟩ 1 = { w with heap := w.heap.setIfInBounds b (.cells c e (if fz.1 == fz.2 then (n, n + 1) else (min fz.1 n, max fz.2 (n + 1)))) } := by
  obtain ⟨hlt, hg⟩ := Array.getElem?_eq_some_iff.1 h
  unfold World.freeze
  simp only [Nat.one_ne_zero, if_false]
  congr 1
  apply Array.ext_getElem?
  intro i
  by_cases hi : i = b
  · subst hi
    rw [Array.getElem?_setIfInBounds_self_of_lt hlt, Array.getElem?_modify]
    simp only [if_true, h, Option.map_some]
  · rw [Array.getElem?_setIfInBounds_ne (fun e => hi e.symm), Array.getElem?_modify, if_neg (fun e => hi e.symm)]

theorem eMark_some {R : Nat} {l : List Value} {m m' : M} {v : Value} (h : eMark R l m = some (v, m')) :
    ∃ a n c, l = [.slice (some a) n c] ∧ v = .slice (some a) n c ∧ m' = ⟨m.next, m.mem.set a.block (m.mem.get a.block)⟩ ∧ R ≤ a.block ∧ 0 < c / 512 ∧ isCl (m.mem.get a.block) = true := by
  unfold eMark at h
  split at h
  · rename_i a n c
    cases hb : (Nat.ble R a.block && (Nat.blt 0 (c / 512) && isCl (m.mem.get a.block))) with
    | false => rw [hb] at h; cases h
    | true =>
      rw [hb] at h; cases h
      simp only [Bool.and_eq_true] at hb
      exact ⟨a, n, c, rfl, rfl, rfl, Nat.le_of_ble_eq_true hb.1, Nat.le_of_ble_eq_true hb.2.1, hb.2.2⟩
  · cases h
theorem mark_ok {R : Nat} {s el : TypeId} {x : Operand} (ho : o.op = .convert s s x) (hs0 : P.underlying s = some (.slice el)) (he : P.underlying el = some (.int .u8)) : EffOK R P o (eMark R) := by
  refine ⟨fun l m v m' h => ?_, ?_⟩
  · obtain ⟨a, n, c, _, _, rfl, _⟩ := eMark_some h
    exact Nat.le_refl _
  · intro G B ρ m w e l v m' hGR hs hB hl hv
    have hl' : VRs ρ l [e x] := by simpa [Op.operands, ho] using hl
    obtain ⟨a0, rfl, hx⟩ := hl'.one
    obtain ⟨a, n, c, heq, rfl, rfl, hR, hc0, hcl⟩ := eMark_some hv
    simp only [List.cons.injEq, and_true] at heq
    subst heq
    obtain ⟨cs, hcs⟩ := isCl_some hcl
    generalize hex : e x = ex at hx
    cases hx with
    | slice _ hsr =>
      rename_i a' c'
      have hsr0 := hsr
      obtain ⟨p1, p2, ⟨p3, p4⟩, p5, st, p6, p7⟩ := hsr
      cases st with
      | dead => rw [hs.dead _ p6] at hcs; cases hcs
      | «at» _ => rw [hs.sat _ _ p6] at hcs; cases hcs
      | live lo =>
        obtain ⟨q1, q2, q3⟩ := p7 lo rfl (by omega)
        have hidB : a.block < B := hs.lt (by rw [hcs]; simp)
        have hob := hs.obj _ _ hidB p6
        rw [hcs] at hob
        obtain ⟨cc, te, l0, hi, r1, r2, r3, r4, r5⟩ := hob
        have hor : OR ρ lo (m.mem.get a.block) (some (.cells cc te (if l0 == hi then (cc.size, cc.size + 1) else (min l0 cc.size, max hi (cc.size + 1))))) := by
          rw [hcs]
          by_cases hlh : l0 = hi
          · subst hlh
            exact ⟨cc, te, cc.size, cc.size + 1, by simp, r2, r3, r4, .inr (by omega)⟩
          · have hne : (l0 == hi) = false := by simpa using hlh
            rw [hne]
            refine ⟨cc, te, min l0 cc.size, max hi (cc.size + 1), by simp, r2, r3, r4, .inr ?_⟩
            rcases r5 with h | h
            · exact absurd h hlh
            · omega
        obtain ⟨s1, s2⟩ := setObj_rel (R := R) hs p6 hidB hR r1 hor
        refine ⟨.slice (some a') n c', _, ρ, .inl ?_, .slice n hsr0, s1, s2⟩
        have hmk : (markStringish a').run P w = .ok () (w.freeze ⟨a'.block, cc.size, none⟩ 1) := by
          simp [markStringish, shape, freeze, Sem.run, World.shape?, q1, r1]
        unfold execOp; rw [ho]
        simp only [Sem.run_bind, hex, convert, run_und hs0, run_und he, Result.andThen_ok, beq_self_eq_true, hmk, Sem.run_pure]
        rw [q1, freeze_eq r1]

/-! ### two values of an interface type, none of them nil -/
def notNo : HO → Bool | .no => false | _ => true
def sameA (a b : Addr) : Bool := Nat.beq a.block b.block && Nat.beq a.off b.off
noncomputable def eqDyn (P : Program) (t : Nat) (u v : Value) (m : M) : Option Bool :=
  match P.info? t, P.underlying t with
  | some i, some d => bif i.comparable then (match d, u, v with
    | .pointer el, .pointer (some a), .pointer (some b) => (match P.info? el with
      | some _ => bif sameA a b && notNo (m.mem.get a.block) then some true else none
      | none => none)
    | .pointer el, .complex .f64 i _, .complex .f64 j _ => (match P.info? el with
      | some _ => bif Nat.beq i j then some true else none
      | none => none)
    | d, u, v => (match eqKOf d with | some q => eqK q u v | none => none)) else none
  | _, _ => none
theorem eqDyn_some {P : Program} {t : Nat} {u v : Value} {m : M} {r : Bool} (h : eqDyn P t u v m = some r) : ∃ i d, P.info? t = some i ∧ P.underlying t = some d ∧ (bif i.comparable then (match d, u, v with
    | .pointer el, .pointer (some a), .pointer (some b) => (match P.info? el with
      | some _ => bif sameA a b && notNo (m.mem.get a.block) then some true else none
      | none => none)
    | .pointer el, .complex .f64 i _, .complex .f64 j _ => (match P.info? el with
      | some _ => bif Nat.beq i j then some true else none
      | none => none)
    | d, u, v => (match eqKOf d with | some q => eqK q u v | none => none)) else none) = some r := by
  unfold eqDyn at h
  split at h
  · rename_i i d hi hd; exact ⟨i, d, hi, hd, h⟩
  · cases h
noncomputable def rEqI (P : Program) (c neg : Bool) : RD
  | [.iface t u, .iface t' v], m => bif Nat.beq t t' then (match eqDyn P t u v m with | some b => some (.bool (bif neg then !b else b)) | none => none) else some (.bool neg)
  | [a, b], _ => bEqI c neg a b
  | _, _ => none

theorem rEqI_some {P : Program} {c neg : Bool} {a b : Value} {m : M} {v : Value} (h : rEqI P c neg [a, b] m = some v) :
    (∃ t u t' v', a = .iface t u ∧ b = .iface t' v' ∧ (bif Nat.beq t t' then (match eqDyn P t u v' m with | some b => some (Value.bool (bif neg then !b else b)) | none => none) else some (.bool neg)) = some v) ∨ f2 (bEqI c neg) [a, b] = some v := by
  cases a <;> first | exact .inr h | skip
  cases b <;> first | exact .inr h | skip
  exact .inl ⟨_, _, _, _, rfl, rfl, h⟩
theorem eqI_ok {t : TypeId} {x y : Operand} {yt : TypeId} {op : BinOp} (hop : op = .eql ∨ op = .neq) (ho : o.op = .binOp op t x y yt) {ms : Array (String × TypeId)} (hd : P.underlying t = some (.interface ms)) : ReadOK P o (rEqI P (isC x || isC y) (op == .neq)) := by
  intro G B ρ m w e l v hs hl hv
  have hl' : VRs ρ l [e x, e y] := by simpa [Op.operands, ho] using hl
  obtain ⟨a, b, rfl, ha, hb⟩ := hl'.two
  have hu : (underlying t).run P w = .ok (.interface ms) w := run_und hd
  rcases rEqI_some hv with ⟨t1, u, t2, v', rfl, rfl, h9⟩ | h9 <;> clear hv <;> have hv := h9
  · 
    generalize hx : e x = ex at ha
    generalize hy : e y = ey at hb
    cases ha with
    | iface _ hu1 =>
    cases hb with
    | iface _ hu2 =>
    rename_i u' v''
    have key : ∀ (r : Bool), (∀ d, (Op.equalIn (d + 2) t (.iface t1 u') (.iface t2 v'')).run P w = .ok r w) → (execOp e o).run P w = .ok (.value (.bool (bif (op == .neq) then !r else r))) w := by
      intro r hr
      have hbin : (binOp op t (.iface t1 u') (.iface t2 v'')).run P w = .ok (.bool (bif (op == .neq) then !r else r)) w := by
        have h' : (Op.equal t (.iface t1 u') (.iface t2 v'')).run P w = .ok r w := hr 9998
        rcases hop with rfl | rfl
        · show (Sem.run P (do pure (Value.bool (← Op.equal t (.iface t1 u') (.iface t2 v'')))) w) = _
          simp only [Sem.run_bind, h', Result.andThen_ok, Sem.run_pure]; rfl
        · show (Sem.run P (do pure (Value.bool (!(← Op.equal t (.iface t1 u') (.iface t2 v''))))) w) = _
          simp only [Sem.run_bind, h', Result.andThen_ok, Sem.run_pure]; rfl
      exact run_bin ho e (by rw [hx, hy]; rcases hop with rfl | rfl <;> rfl) (by rw [hx, hy]; exact hbin)
    cases htt : Nat.beq t1 t2 with
    | false =>
      rw [htt] at hv
      cases hv
      have hne : t1 ≠ t2 := fun h => by subst h; simp at htt
      refine ⟨_, (key false fun d => ?_).trans ?_, .bool _⟩
      · simp [Op.equalIn, hu, hne]
      · rcases hop with rfl | rfl <;> rfl
    | true =>
      have := Nat.eq_of_beq_eq_true htt; subst this
      rw [htt] at hv
      simp only [cond_true] at hv
      split at hv
      case h_2 => cases hv
      case h_1 r hr =>
      cases hv
      refine ⟨_, key r fun d => ?_, .bool _⟩
      obtain ⟨i, dd, hi, hdd, hr⟩ := eqDyn_some hr
      cases hcmp : i.comparable with
      | false => rw [hcmp] at hr; cases hr
      | true =>
        rw [hcmp] at hr
        simp only [cond_true] at hr
        have hti : (typeInfo t1).run P w = .ok i w := run_tinfo hi
        have hstep : ∀ b, (Op.equalIn (d + 1) t1 u' v'').run P w = .ok b w → (Op.equalIn (d + 2) t (.iface t1 u') (.iface t1 v'')).run P w = .ok b w := by
          intro b hb
          rw [Op.equalIn]
          simp [hu, hti, hcmp, hb]
        split at hr
        · rename_i el a b _
          split at hr
          case h_2 => cases hr
          case h_1 j hj =>
          cases hq : (sameA a b && notNo (m.mem.get a.block)) with
          | false => rw [hq] at hr; cases hr
          | true =>
            rw [hq] at hr; cases hr
            simp only [Bool.and_eq_true, sameA] at hq
            cases hu1 with
            | ptr h1 =>
            cases hu2 with
            | ptr h2 =>
            rename_i a' b'
            obtain ⟨p1, p2, st, p3, p4⟩ := h1
            obtain ⟨s1, s2, st2, s3, s4⟩ := h2
            have e1 := Nat.eq_of_beq_eq_true hq.1.1
            have e2 := Nat.eq_of_beq_eq_true hq.1.2
            cases st with
            | dead => rw [hs.dead _ p3] at hq; cases hq.2
            | «at» _ => rw [hs.sat _ _ p3] at hq; cases hq.2
            | live lo =>
              rw [← e1, p3] at s3
              cases s3
              obtain ⟨g1, g2⟩ := p4 lo rfl
              obtain ⟨g3, g4⟩ := s4 lo rfl
              have hab : a' = b' := by
                obtain ⟨x1, x2, x3⟩ := a'
                obtain ⟨y1, y2, y3⟩ := b'
                simp only at g1 g2 g3 g4 p2 s2
                subst p2; subst s2; subst g1; subst g3
                congr 1
                omega
              subst hab
              exact run_equalIn_iface_ptr_same w d a' hd hdd hi hcmp hj
        · rename_i el i0 o1 j0 o2 _
          split at hr
          case h_2 => cases hr
          case h_1 j hj =>
          cases hq : Nat.beq i0 j0 with
          | false => rw [hq] at hr; cases hr
          | true =>
            rw [hq] at hr; cases hr
            have e1 := Nat.eq_of_beq_eq_true hq
            subst e1
            cases hu1 with
            | sent h1 =>
            cases hu2 with
            | sent h2 =>
            rw [h1] at h2; cases h2
            exact run_equalIn_iface_ptr_same w d _ hd hdd hi hcmp hj
        · split at hr
          · rename_i q hq
            exact hstep r (eqK_equalIn hdd hq (eqK_VR hu1 hu2 hr) d w)
          · cases hr
  · exact bEqI_ok hop ho hd ρ w e _ v hl hv

/-! ### a field of a struct that is no place -/
def vField1 (off : Nat) : F1
  | .agg a => a.toList[off]?
  | _ => none
theorem field1_ok {t : TypeId} {x : Operand} {i : Nat} {fs : Array Field} {f : Field} {d : TypeDesc} (ho : o.op = .field t x i) (hd : P.underlying t = some (.struct fs)) (hf : fs[i]? = some f) (hfd : P.underlying f.type = some d) (hag : isAggB d = false) :
    PureOK P o (f1 (vField1 f.offset)) := by
  intro ρ w e l v hl hv
  have hl' : VRs ρ l [e x] := by simpa [Op.operands, ho] using hl
  obtain ⟨a, rfl, hx⟩ := hl'.one
  simp only [f1, vField1] at hv
  split at hv
  case h_2 => cases hv
  case h_1 a0 =>
  generalize hex : e x = ex at hx
  obtain ⟨al⟩ := a0
  cases hx with
  | agg hcs =>
    rename_i xs'
    obtain ⟨v', h1, h2⟩ := hcs.get hv
    refine ⟨v', ?_, h2⟩
    unfold execOp; rw [ho]
    simp only [Sem.run_bind, hex, Instr.field, run_und hd, Result.andThen_ok, hf, asAgg, Sem.run_pure]
    rw [run_part1 hfd hag (by simpa using h1)]
    rfl

/-! ### maps that are keyed by numbers, texts -/
def hFind (q : EqK) (k : Value) : List (Value × Value) → Option (Option Value)
  | [] => some none
  | (k', v) :: es => match eqK q k k' with
    | some true => some (some v)
    | some false => hFind q k es
    | none => none
def hUpd (q : EqK) (k v : Value) : List (Value × Value) → Option (List (Value × Value))
  | [] => some [(k, v)]
  | (k', v') :: es => match eqK q k k' with
    | some true => some ((k, v) :: es)
    | some false => (match hUpd q k v es with | some r => some ((k', v') :: r) | none => none)
    | none => none
def keyOf : TypeDesc → Option EqK
  | .int _ => some .int | .string => some .str | _ => none
noncomputable def rLook (q : EqK) (z : Value) (ok : Bool) : RD
  | [.map none, k], _ => (match hFind q k [] with | some _ => some (bif ok then .tuple ⟨[z, .bool false]⟩ else z) | none => none)
  | [.map (some r), k], m => (match m.mem.get r with
    | .map es => (match hFind q k es with
      | some (some v) => some (bif ok then .tuple ⟨[v, .bool true]⟩ else v)
      | some none => some (bif ok then .tuple ⟨[z, .bool false]⟩ else z)
      | none => none)
    | _ => none)
  | _, _ => none

theorem sameNow_eqK {d : TypeDesc} {q : EqK} (hq : keyOf d = some q) {a b : Value} {r : Bool} (h : eqK q a b = some r) : Instr.sameNow d a b = some r := by
  cases d <;> simp [keyOf] at hq <;> subst hq
  · cases a <;> first | (simp [eqK] at h; done) | skip
    cases b <;> first | (simp [eqK] at h; done) | skip
    rename_i k i j m
    simp only [eqK] at h
    cases hk : beqK k j with
    | false => rw [hk] at h; cases h
    | true =>
      rw [hk] at h; cases h
      have := beqK_iff.1 hk; subst this
      simp [Instr.sameNow, beqInt_eq]
  · cases a <;> first | (simp [eqK] at h; done) | skip
    cases b <;> first | (simp [eqK] at h; done) | skip
    rename_i s t
    simp only [eqK] at h
    cases h
    show some (_ == _) = _
    congr 1
    rw [Bool.eq_iff_iff, beqBytes_iff]
    show ((ByteArray.data _ == ByteArray.data _) = true) ↔ _
    rw [beq_iff_eq]
    exact ⟨fun h => by rw [h], fun h => Array.toList_inj.1 h⟩
/-- entries of a map in the world -/
def EsR (ρ : Rho) (es : List (Value × Value)) (l : List MapEntry) : Prop := es.length = l.length ∧ ∀ (k : Nat) (p : Value × Value), es[k]? = some p → ∃ e : MapEntry, l[k]? = some e ∧ VR ρ p.1 e.key ∧ VR ρ p.2 e.val
theorem EsR.nil_inv {ρ : Rho} {l : List MapEntry} (h : EsR ρ [] l) : l = [] := by
  have := h.1; simp only [List.length_nil] at this; exact List.length_eq_zero_iff.1 this.symm
theorem EsR.cons_inv {ρ : Rho} {k v : Value} {es : List (Value × Value)} {l : List MapEntry} (h : EsR ρ ((k, v) :: es) l) : ∃ e l', l = e :: l' ∧ VR ρ k e.key ∧ VR ρ v e.val ∧ EsR ρ es l' := by
  cases l with
  | nil => have := h.1; simp at this
  | cons e l =>
    obtain ⟨e', h1, h2, h3⟩ := h.2 0 (k, v) rfl
    simp at h1; subst h1
    exact ⟨e, l, rfl, h2, h3, by simpa using h.1, fun j p hj => by simpa using h.2 (j + 1) p (by simpa using hj)⟩
theorem EsR.nil (ρ : Rho) : EsR ρ [] [] := ⟨rfl, fun k p h => by simp at h⟩
theorem EsR.cons {ρ : Rho} {k v : Value} {es : List (Value × Value)} {e : MapEntry} {l : List MapEntry} (h1 : VR ρ k e.key) (h2 : VR ρ v e.val) (h : EsR ρ es l) : EsR ρ ((k, v) :: es) (e :: l) :=
  ⟨by simp [h.1], fun j p hj => by
    cases j with
    | zero => simp at hj; subst hj; exact ⟨e, rfl, h1, h2⟩
    | succ j => simpa using h.2 j p (by simpa using hj)⟩

theorem hFind_run {ρ : Rho} {d : TypeDesc} {q : EqK} (hq : keyOf d = some q) {k k' : Value} (hk : VR ρ k k') : ∀ {es : List (Value × Value)} {l : List MapEntry} {r : Option Value} (i : Nat), EsR ρ es l → hFind q k es = some r →
    (r = none ∧ Instr.findNow d k' l i = some none) ∨ ∃ v j e, r = some v ∧ Instr.findNow d k' l i = some (some (i + j, e.val)) ∧ l[j]? = some e ∧ VR ρ v e.val := by
  intro es
  induction es with
  | nil => intro l r i h hr; rw [h.nil_inv]; simp only [hFind] at hr; cases hr; exact .inl ⟨rfl, rfl⟩
  | cons kv es ih =>
    obtain ⟨k1, v1⟩ := kv
    intro l r i h hr
    obtain ⟨e, l', rfl, h1, h2, h3⟩ := h.cons_inv
    simp only [hFind] at hr
    split at hr
    · rename_i hb
      cases hr
      refine .inr ⟨v1, 0, e, rfl, ?_, rfl, h2⟩
      simp only [Instr.findNow, sameNow_eqK hq (eqK_VR hk h1 hb), Nat.add_zero]
    · rename_i hb
      rcases ih (i + 1) h3 hr with ⟨h4, h5⟩ | ⟨v, j, e', h4, h5, h6, h7⟩
      · refine .inl ⟨h4, ?_⟩
        simp only [Instr.findNow, sameNow_eqK hq (eqK_VR hk h1 hb), h5]
      · refine .inr ⟨v, j + 1, e', h4, ?_, by simpa using h6, h7⟩
        simp only [Instr.findNow, sameNow_eqK hq (eqK_VR hk h1 hb), h5]
        congr 3; omega
    · cases hr
theorem run_checkKey {w : World} {b : Bool} {t : TypeId} {d : TypeDesc} {q : EqK} (hd : P.underlying t = some d) (hq : keyOf d = some q) (k : Value) : (Instr.checkKey b 10000 t k).run P w = .ok () w := by
  have hu : (underlying t).run P w = .ok d w := run_und hd
  rw [show (10000 : Nat) = 9999 + 1 from rfl, Instr.checkKey]
  cases d <;> simp [keyOf] at hq <;> simp [hu]
theorem run_findKey {w : World} {t : TypeId} {d : TypeDesc} {k : Value} {l : List MapEntry} {r : Option (Nat × Value)} (hd : P.underlying t = some d) (h : Instr.findNow d k l 0 = some r) : (Instr.findKey t k l).run P w = .ok r w := by
  simp [Instr.findKey, run_und hd, h]

theorem look_ok {t kt el : TypeId} {x k : Operand} {ok : Bool} {d : TypeDesc} {q : EqK} {ti : TypeInfo} {z : Value} (ho : o.op = .lookup t x k ok) (hd : P.underlying t = some (.map kt el)) (hk : P.underlying kt = some d) (hq : keyOf d = some q) (hti : P.info? el = some ti) (hz : ti.zero = some z) (hp : ∀ ρ, VR ρ z z) :
    ReadOK P o (rLook q z ok) := by
  intro G B ρ m w e l v hs hl hv
  have hl' : VRs ρ l [e x, e k] := by simpa [Op.operands, ho] using hl
  obtain ⟨a, b, rfl, ha, hb⟩ := hl'.two
  generalize hx : e x = ex at ha
  have fin0 : ex = .map none → (execOp e o).run P w = .ok (.value (if ok then .tuple #[z, .bool false] else z)) w := by
    intro h0
    have h2 : Instr.findNow d (e k) [] 0 = some none := rfl
    unfold execOp; rw [ho]
    simp only [Sem.run_bind, hx, h0, Instr.lookup, run_und hd, Result.andThen_ok, Sem.run_pure, run_checkKey hk hq, run_findKey hk h2, run_zero hti hz]
  have fin1 : ∀ r' entries clock res v' f, ex = .map (some r') → (getObj r').run P w = .ok (.map entries clock) w → Instr.findNow d (e k) entries.toList 0 = some res → ((res = none ∧ v' = z ∧ f = false) ∨ ∃ i, res = some (i, v') ∧ f = true) →
      (execOp e o).run P w = .ok (.value (if ok then .tuple #[v', .bool f] else v')) w := by
    intro r' entries clock res v' f h0 hgo h2 h3
    unfold execOp; rw [ho]
    simp only [Sem.run_bind, hx, h0, Instr.lookup, run_und hd, Result.andThen_ok, Sem.run_pure, hgo, run_checkKey hk hq, run_findKey hk h2]
    rcases h3 with ⟨rfl, rfl, rfl⟩ | ⟨i, rfl, rfl⟩
    · simp only [Sem.run_bind, run_zero hti hz, Result.andThen_ok, Sem.run_pure]
    · simp only [Sem.run_bind, Result.andThen_ok, Sem.run_pure]
  unfold rLook at hv
  split at hv
  · rename_i k0 _ heq
    simp only [List.cons.injEq, and_true] at heq
    obtain ⟨rfl, rfl⟩ := heq
    cases ha
    simp only [hFind] at hv
    cases hv
    refine ⟨_, fin0 rfl, ?_⟩
    cases ok
    · exact hp ρ
    · exact .tuple (.cons (hp ρ) (.cons (.bool _) .nil))
  · rename_i r0 k0 m0 heq
    simp only [List.cons.injEq, and_true] at heq
    obtain ⟨rfl, rfl⟩ := heq
    split at hv
    case h_2 => cases hv
    case h_1 es hes =>
    cases ha with
    | map hmr =>
      rename_i r'
      obtain ⟨st, p3, p4⟩ := hmr
      cases st with
      | dead => rw [hs.dead _ p3] at hes; cases hes
      | «at» _ => rw [hs.sat _ _ p3] at hes; cases hes
      | live lo =>
        have hrl := p4 lo rfl
        have hob := hs.obj _ _ (hs.lt (by rw [hes]; simp)) p3
        rw [hes] at hob
        obtain ⟨entries, clock, g1, g2, g3⟩ := hob
        have hgo : (getObj r').run P w = .ok (.map entries clock) w := by rw [hrl]; simp only [getObj, Sem.run, g1]
        have hE : EsR ρ es entries.toList := ⟨by simpa using g2, fun j p hj => by obtain ⟨e, h1, h2, h3⟩ := g3 j p hj; exact ⟨e, by simpa using h1, h2, h3⟩⟩
        split at hv
        · rename_i v0 hf
          cases hv
          rcases hFind_run hq hb 0 hE hf with ⟨h4, _⟩ | ⟨v1, j, e1, h4, h5, h6, h7⟩
          · cases h4
          · cases h4
            refine ⟨_, fin1 r' entries clock _ e1.val true rfl hgo h5 (.inr ⟨_, rfl, rfl⟩), ?_⟩
            cases ok
            · exact h7
            · exact .tuple (.cons h7 (.cons (.bool _) .nil))
        · rename_i hf
          cases hv
          rcases hFind_run hq hb 0 hE hf with ⟨_, h5⟩ | ⟨v1, j, e1, h4, _⟩
          · refine ⟨_, fin1 r' entries clock none z false rfl hgo h5 (.inl ⟨rfl, rfl, rfl⟩), ?_⟩
            cases ok
            · exact hp ρ
            · exact .tuple (.cons (hp ρ) (.cons (.bool _) .nil))
          · cases h4
        · cases hv
  · cases hv

/-! ### a map is written -/
noncomputable def eMapUpd (R : Nat) (q : EqK) : EF
  | [.map (some r), k, v], m => (match m.mem.get r with
    | .map es => bif Nat.ble R r then (match hUpd q k v es with | some es' => some (undefV, ⟨m.next, m.mem.set r (.map es')⟩) | none => none) else none
    | _ => none)
  | _, _ => none
theorem eMapUpd_some {R : Nat} {q : EqK} {l : List Value} {m m' : M} {v : Value} (h : eMapUpd R q l m = some (v, m')) :
    ∃ r k x es es', l = [.map (some r), k, x] ∧ v = undefV ∧ m' = ⟨m.next, m.mem.set r (.map es')⟩ ∧ m.mem.get r = .map es ∧ R ≤ r ∧ hUpd q k x es = some es' := by
  unfold eMapUpd at h
  split at h
  · rename_i r k x
    split at h
    · rename_i es hes
      cases hb : Nat.ble R r with
      | false => rw [hb] at h; cases h
      | true =>
        rw [hb] at h
        simp only [cond_true] at h
        split at h
        · rename_i es' he; cases h; exact ⟨r, k, x, es, es', rfl, rfl, rfl, hes, Nat.le_of_ble_eq_true hb, he⟩
        · cases h
    · cases h
  · cases h
theorem sameBits_key {d : TypeDesc} {q : EqK} (hq : keyOf d = some q) {a b : Value} (h : eqK q a b = some true) : Instr.sameBits 10000 b a = true := by
  cases d <;> simp [keyOf] at hq <;> subst hq
  · cases a <;> first | (simp [eqK] at h; done) | skip
    cases b <;> first | (simp [eqK] at h; done) | skip
    rename_i k i j m
    simp only [eqK] at h
    cases hk : beqK k j with
    | false => rw [hk] at h; cases h
    | true =>
      rw [hk] at h
      simp only [cond_true, Option.some.injEq] at h
      have := beqK_iff.1 hk; subst this
      have := beqInt_iff.1 h; subst this
      simp [Instr.sameBits]
  · cases a <;> first | (simp [eqK] at h; done) | skip
    cases b <;> first | (simp [eqK] at h; done) | skip
    rename_i s t
    simp only [eqK, Option.some.injEq] at h
    have hst : s = t := by
      have := beqBytes_iff.1 h
      obtain ⟨⟨s⟩⟩ := s; obtain ⟨⟨t⟩⟩ := t
      simp at this; rw [this]
    subst hst
    show (s == s) = true
    show (ByteArray.data s == ByteArray.data s) = true
    simp
/-- what is written, as the model has it -/
theorem hUpd_run {ρ : Rho} {d : TypeDesc} {q : EqK} (hq : keyOf d = some q) {k k' v v' : Value} (hk : VR ρ k k') (hv : VR ρ v v') : ∀ {es es' : List (Value × Value)} {l : List MapEntry} (i : Nat), EsR ρ es l → hUpd q k v es = some es' →
    (∃ e0 : MapEntry → MapEntry, True ∧ Instr.findNow d k' l i = some none ∧ ∀ c, EsR ρ es' (l ++ [{ key := k', val := v', born := c }])) ∨
    ∃ j e, Instr.findNow d k' l i = some (some (i + j, e.val)) ∧ l[j]? = some e ∧ Instr.sameBits 10000 e.key k' = true ∧ EsR ρ es' (l.modify j fun e => { e with key := k', val := v' }) := by
  intro es
  induction es with
  | nil =>
    intro es' l i h hr
    rw [h.nil_inv]; simp only [hUpd] at hr; cases hr
    exact .inl ⟨id, trivial, rfl, fun c => .cons hk hv (.nil ρ)⟩
  | cons kv es ih =>
    obtain ⟨k1, v1⟩ := kv
    intro es' l i h hr
    obtain ⟨e, l', rfl, h1, h2, h3⟩ := h.cons_inv
    simp only [hUpd] at hr
    split at hr
    · rename_i hb
      cases hr
      refine .inr ⟨0, e, ?_, rfl, sameBits_key hq (eqK_VR hk h1 hb), ?_⟩
      · simp only [Instr.findNow, sameNow_eqK hq (eqK_VR hk h1 hb), Nat.add_zero]
      · exact EsR.cons hk hv h3
    · rename_i hb
      split at hr
      · rename_i r hr'
        cases hr
        rcases ih (i + 1) h3 hr' with ⟨f, _, h5, h6⟩ | ⟨j, e', h4, h5, h6, h7⟩
        · refine .inl ⟨f, trivial, ?_, fun c => EsR.cons h1 h2 (h6 c)⟩
          simp only [Instr.findNow, sameNow_eqK hq (eqK_VR hk h1 hb), h5]
        · refine .inr ⟨j + 1, e', ?_, by simpa using h5, h6, ?_⟩
          · simp only [Instr.findNow, sameNow_eqK hq (eqK_VR hk h1 hb), h4]
            congr 3; omega
          · exact EsR.cons h1 h2 h7
      · cases hr
    · cases hr

theorem mapUpd_ok {R : Nat} {t kt el : TypeId} {mm k x : Operand} {d : TypeDesc} {q : EqK} (ho : o.op = .mapUpdate t mm k x ∨ o.op = .insert t mm k x) (hd : P.underlying t = some (.map kt el)) (hk : P.underlying kt = some d) (hq : keyOf d = some q) : EffOK R P o (eMapUpd R q) := by
  refine ⟨fun l m v m' h => ?_, ?_⟩
  · obtain ⟨r, k, x, es, es', _, _, rfl, _⟩ := eMapUpd_some h
    exact Nat.le_refl _
  intro G B ρ m w e l v m' hGR hs hB hl hv
  have hl' : VRs ρ l [e mm, e k, e x] := by rcases ho with ho | ho <;> simpa [Op.operands, ho] using hl
  obtain ⟨a, b, c, rfl, ha, hb, hc⟩ := hl'.three
  obtain ⟨r, k0, x0, es, es', heq, rfl, rfl, hes, hR, hup⟩ := eMapUpd_some hv
  simp only [List.cons.injEq, and_true] at heq
  obtain ⟨rfl, rfl, rfl⟩ := heq
  generalize hx : e mm = ex at ha
  cases ha with
  | map hmr =>
    rename_i r'
    obtain ⟨st, p3, p4⟩ := hmr
    cases st with
    | dead => rw [hs.dead _ p3] at hes; cases hes
    | «at» _ => rw [hs.sat _ _ p3] at hes; cases hes
    | live lo =>
      have hrl := p4 lo rfl
      subst hrl
      have hidB : r < B := hs.lt (by rw [hes]; simp)
      have hob := hs.obj _ _ hidB p3
      rw [hes] at hob
      obtain ⟨entries, clock, g1, g2, g3⟩ := hob
      have hE : EsR ρ es entries.toList := ⟨by simpa using g2, fun j p hj => by obtain ⟨e, h1, h2, h3⟩ := g3 j p hj; exact ⟨e, by simpa using h1, h2, h3⟩⟩
      have hgo : (getObj lo.b).run P w = .ok (.map entries clock) w := by simp only [getObj, Sem.run, g1]
      have hso : ∀ ob, (setObj lo.b ob).run P w = .ok () { w with heap := w.heap.setIfInBounds lo.b ob } := fun ob => by simp only [setObj, Sem.run, g1]
      have hrun : ∀ w', (Instr.mapUpdate t (.map (some lo.b)) (e k) (e x)).run P w = .ok () w' → (execOp e o).run P w = .ok .skip w' := by
        intro w' h
        unfold execOp
        rcases ho with ho | ho <;> rw [ho] <;> simp only [Sem.run_bind, hx, h, Result.andThen_ok, Sem.run_pure]
      rcases hUpd_run hq hb hc 0 hE hup with ⟨_, _, h5, h6⟩ | ⟨j, e1, h4, h5, h6, h7⟩
      · have hob' : OR ρ lo (.map es') (some (.map (entries.push { key := e k, val := e x, born := clock }) (clock + 1))) := by
          obtain ⟨f1, f2⟩ := h6 clock
          exact ⟨_, _, rfl, by simpa using f1, fun j p hj => by obtain ⟨e', q1, q2, q3⟩ := f2 j p hj; exact ⟨e', by rw [← Array.getElem?_toList, Array.toList_push]; exact q1, q2, q3⟩⟩
        obtain ⟨s1, s2⟩ := setObj_rel (R := R) hs p3 hidB hR g1 hob'
        refine ⟨undefV, _, ρ, .inr ⟨hrun _ ?_, rfl⟩, VRundef ρ, s1, s2⟩
        simp only [Instr.mapUpdate, Sem.run_bind, run_und hd, Result.andThen_ok, hgo, run_checkKey hk hq, run_findKey hk h5, hso]
      · have hob' : OR ρ lo (.map es') (some (.map (entries.modify j fun e' => { e' with key := e k, val := e x }) clock)) := by
          obtain ⟨f1, f2⟩ := h7
          exact ⟨_, _, rfl, by simpa using f1, fun j' p hj => by obtain ⟨e', q1, q2, q3⟩ := f2 j' p hj; exact ⟨e', by rw [← Array.getElem?_toList, Array.toList_modify]; exact q1, q2, q3⟩⟩
        obtain ⟨s1, s2⟩ := setObj_rel (R := R) hs p3 hidB hR g1 hob'
        refine ⟨undefV, _, ρ, .inr ⟨hrun _ ?_, rfl⟩, VRundef ρ, s1, s2⟩
        rw [Nat.zero_add] at h4
        have hj : entries[j]? = some e1 := by simpa using h5
        simp only [Instr.mapUpdate, Sem.run_bind, run_und hd, Result.andThen_ok, hgo, run_checkKey hk hq, run_findKey hk h4, hj, Option.map_some, Option.getD_some, Instr.keyThatStays, h6, if_true, Sem.run_pure, hso]
end
end Go.HM
