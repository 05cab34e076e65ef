import Derived.Test.YtdhcabbngddboaaGreatDoorHmQ
import Derived.OrdersIn
set_option linter.unusedVariables false
set_option linter.unusedSimpArgs false
namespace Go.HM

/-! ## Regions whose order is drawn -/
def HOp.isEff : HOp → Bool
  | .ef _ _ => true
  | .call _ _ => true
  | .inv _ _ _ => true
  | _ => false
def HOp.isRd : HOp → Bool
  | .rd _ _ => true
  | _ => false
def HOp.isAl : HOp → Bool
  | .al _ _ => true
  | _ => false

/-- one operation must come ahead of another -/
inductive Bef (ops : Array Oper) : Nat → Nat → Prop
  | edge {j o e} : ops[j]? = some o → e ∈ o.after → Region.binds .any e = true → Bef ops e.on j
  | step {i j o e} : Bef ops i e.on → ops[j]? = some o → e ∈ o.after → Region.binds .any e = true → Bef ops i j

def HR.reads (h : HR) (p : Pt) : Prop := (∃ b, h.guard = some (p, b)) ∨ Opd.t p ∈ h.op.opds
def Clash (a b : HR) : Prop := (∃ p, a.dst = some p ∧ (b.reads p ∨ b.dst = some p)) ∨ (∃ p, b.dst = some p ∧ a.reads p)

structure DrawOK (ops : Array Oper) (hs : List HR) (ps : List (Nat × Nat)) : Prop where
  fwd : ∀ i j, Bef ops i j → i < j
  conf : ∀ i j hi hj, hs[i]? = some hi → hs[j]? = some hj → i < j → Clash hi hj → Bef ops i j
  eff : ∀ i j hi hj, hs[i]? = some hi → hs[j]? = some hj → i < j → hi.op.isEff = true → hj.op.isEff = true → Bef ops i j
  rde : ∀ i j hi hj, hs[i]? = some hi → hs[j]? = some hj → hi.op.isRd = true → hj.op.isEff = true → Bef ops i j ∨ Bef ops j i ∨ (i, j) ∈ ps

structure Step (call : CallF) (h : HR) (fr fr' : Fr) (s s' : M) (v : Value) (ran : Bool) : Prop where
  frE : fr' = putD h.dst v fr
  ranE : ran = wants fr h.guard
  no : ran = false → v = undefV ∧ s' = s
  yes : ran = true → s.next ≤ s'.next ∧ ∀ k2, doOp call fr s k2 h.op = k2 v s'

theorem Step.mono {call : CallF} {h : HR} {fr fr' : Fr} {s s' : M} {v : Value} {ran : Bool} (hs : Step call h fr fr' s s' v ran) : s.next ≤ s'.next := by
  cases hr : ran with
  | false => rw [(hs.no hr).2]; exact Nat.le_refl _
  | true => exact (hs.yes hr).1

theorem RegOK.get {P : Program} {R G N : Nat} {ops : Array Oper} : ∀ {hs : List HR} {i : Nat}, RegOK P R G N ops i hs → i + hs.length = max i ops.size ∧ ∀ j o, ops[i + j]? = some o → ∃ h, hs[j]? = some h ∧ HROK P R G N ops o h := by
  intro hs
  induction hs with
  | nil =>
    intro i h
    cases h with
    | nil h =>
      refine ⟨by simp; omega, fun j o ho => ?_⟩
      rw [Array.getElem?_eq_none (by omega)] at ho; cases ho
  | cons h0 hs ih =>
    intro i h
    cases h with
    | cons h1 h2 h3 =>
      rename_i o'
      obtain ⟨a, b⟩ := ih h3
      have hlt : i < ops.size := (Array.getElem?_eq_some_iff.1 h1).1
      refine ⟨by simp only [List.length_cons]; omega, fun j o ho => ?_⟩
      cases j with
      | zero => rw [Nat.add_zero, h1] at ho; cases ho; exact ⟨h0, rfl, h2⟩
      | succ j => exact b j o (by rw [show i + 1 + j = i + (j + 1) by omega]; exact ho)

theorem evD_trace {P : Program} {R G N : Nat} {call : CallF} (hG : G ≤ R) (hc : CallOK P R G call) {ops : Array Oper} : ∀ (hs : List HR) (i : Nat), RegOK P R G N ops i hs → ∀ (tr : List En) (fr : Fr) (s : M) (k : List En → Fr → M → Res) (r : Value × M), evD call k hs tr fr s = some r →
    ∃ (st : Nat → M) (frs : Nat → Fr) (vs : Nat → Value) (ran : Nat → Bool), st i = s ∧ frs i = fr ∧ (∀ j h, hs[j]? = some h → Step call h (frs (i + j)) (frs (i + j + 1)) (st (i + j)) (st (i + j + 1)) (vs (i + j)) (ran (i + j))) ∧
      k (tr ++ (List.range' i hs.length).map (fun j => ⟨ran j, frs j, st j, vs j, st (j + 1)⟩)) (frs (i + hs.length)) (st (i + hs.length)) = some r := by
  intro hs
  induction hs with
  | nil => intro i _ tr fr s k r hr; exact ⟨fun _ => s, fun _ => fr, fun _ => undefV, fun _ => false, rfl, rfl, fun j h e => by simp at e, by have hr' : k tr fr s = some r := hr; simpa using hr'⟩
  | cons o hs ih =>
    intro i hreg tr fr s k r hr
    cases hreg with
    | cons g1 g2 g3 =>
    have hr' : Bool.rec (motive := fun _ => Res) (evD call k hs (tr ++ [⟨false, fr, s, undefV, s⟩]) (putD o.dst undefV fr) s) (doOp call fr s (fun v s' => evD call k hs (tr ++ [⟨true, fr, s, v, s'⟩]) (putD o.dst v fr) s') o.op) (wants fr o.guard) = some r := (evD_cons _ _ _ _ _ _ _).symm.trans hr
    have key : ∀ (b : Bool) (v : Value) (s' : M), Step call o fr (putD o.dst v fr) s s' v b → evD call k hs (tr ++ [⟨b, fr, s, v, s'⟩]) (putD o.dst v fr) s' = some r →
        ∃ (st : Nat → M) (frs : Nat → Fr) (vs : Nat → Value) (ran : Nat → Bool), st i = s ∧ frs i = fr ∧ (∀ j h, (o :: hs)[j]? = some h → Step call h (frs (i + j)) (frs (i + j + 1)) (st (i + j)) (st (i + j + 1)) (vs (i + j)) (ran (i + j))) ∧
      k (tr ++ (List.range' i (o :: hs).length).map (fun j => ⟨ran j, frs j, st j, vs j, st (j + 1)⟩)) (frs (i + (o :: hs).length)) (st (i + (o :: hs).length)) = some r := by
      intro b v s' hstep h
      obtain ⟨st, frs, vs, ran, q1, q2, q3, q4⟩ := ih _ g3 _ _ _ _ _ h
      refine ⟨fun j => if j = i then s else st j, fun j => if j = i then fr else frs j, fun j => if j = i then v else vs j, fun j => if j = i then b else ran j, if_pos rfl, if_pos rfl, fun j h hj => ?_, ?_⟩
      · cases j with
        | zero =>
          cases hj
          simp only [Nat.add_zero, if_true]
          rw [if_neg (by omega), if_neg (by omega), q1, q2]
          exact hstep
        | succ j =>
          have := q3 j h hj
          simp only [show i + (j + 1) ≠ i by omega, show i + (j + 1) + 1 ≠ i by omega, if_false]
          rw [show i + (j + 1) = i + 1 + j by omega]
          exact this
      · simp only [List.length_cons, List.range'_succ, List.map_cons, if_true, show i + 1 ≠ i by omega, show i + (hs.length + 1) ≠ i by omega, if_false, q1]
        rw [show i + (hs.length + 1) = i + 1 + hs.length by omega]
        have hm : (List.range' (i + 1) hs.length).map (fun j => (⟨if j = i then b else ran j, if j = i then fr else frs j, if j = i then s else st j, if j = i then v else vs j, if j + 1 = i then s else st (j + 1)⟩ : En)) = (List.range' (i + 1) hs.length).map (fun j => (⟨ran j, frs j, st j, vs j, st (j + 1)⟩ : En)) := by
          refine List.map_congr_left fun j hj => ?_
          have := (List.mem_range'_1.1 hj).1
          simp only [show j ≠ i by omega, show j + 1 ≠ i by omega, if_false]
        rw [hm]
        simpa using q4
    cases hw : wants fr o.guard with
    | false =>
      rw [hw] at hr'
      exact key false undefV s ⟨rfl, hw.symm, fun _ => ⟨rfl, rfl⟩, fun h => by cases h⟩ hr'
    | true =>
      rw [hw] at hr'
      obtain ⟨v, s1, h0, hm1, h1, _⟩ := doOp_told hG hc g2.op hr'
      exact key true v s1 ⟨rfl, hw.symm, fun h => (by cases h), fun _ => ⟨hm1, h1⟩⟩ h0

theorem Sim.raise {G B B' : Nat} {ρ : Rho} {m : M} {w : World} (h : Sim G B ρ m w) (hB : m.next ≤ B') (hn : ∀ id, B ≤ id → id < B' → ρ id = none) : Sim G B' ρ m w where
  obj := fun id l h1 h2 => by
    rcases Nat.lt_or_ge id B with h3 | h3
    · exact h.obj id l h3 h2
    · rw [hn id h3 h1] at h2; cases h2
  inj := h.inj
  blk := h.blk
  fresh := fun id h1 h2 => by
    rcases Nat.lt_or_ge id B with h3 | h3
    · exact h.fresh id h1 h3
    · exact hn id h3 h2
  high := fun id h1 => h.high id (.inr (by omega))
  dead := h.dead
  glob := h.glob
  sat := h.sat
theorem Ext.up {R B B' : Nat} {ρ ρ' : Rho} {m m' : M} {w w' : World} (h : Ext R B ρ m w ρ' m' w') (hB : B ≤ B') : Ext R B' ρ m w ρ' m' w' where
  le := h.le
  next := h.next
  none := h.none
  ro := h.ro
  high := fun id h1 => h.high id (by omega)
  os := h.os
  tape := h.tape
  output := h.output
  size := h.size
  keep := h.keep
  own := h.own
end Go.HM
