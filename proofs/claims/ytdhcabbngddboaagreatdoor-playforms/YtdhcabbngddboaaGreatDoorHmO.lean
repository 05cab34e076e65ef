import Derived.Test.YtdhcabbngddboaaGreatDoorHmN
set_option linter.unusedVariables false
set_option linter.unusedSimpArgs false
namespace Go.HM

/-- an operation and what it is made into -/
structure HROK (P : Program) (R G N : Nat) (ops : Array Oper) (o : Oper) (h : HR) : Prop where
  dst : h.dst = o.dst.map Pt.ofNat
  guard : match o.guard with
    | none => h.guard = none
    | some (j, b) => ∃ oj d, ops[j]? = some oj ∧ oj.dst = some d ∧ d < N ∧ h.guard = some (Pt.ofNat d, b)
  op : h.op = .bad ∨ (OpOK P R G N o h.op ∧ NoD o)

theorem isB_rel {ρ : Rho} {b : Bool} {v v' : Value} (h : VR ρ v v') : isB b v = isB b v' := by
  cases h <;> rfl
theorem wants_rel {P : Program} {R G N : Nat} {ops : Array Oper} {o : Oper} {h : HR} {ρ : Rho} {fr : Fr} {a : Act} (hok : HROK P R G N ops o h) (hf : FrR N ρ fr a.tmps) : Region.wanted o (yielded ops a.tmps) = wants fr h.guard := by
  have hg := hok.guard
  unfold Region.wanted
  cases hgd : o.guard with
  | none => rw [hgd] at hg; simp only at hg; rw [hg]; rfl
  | some jb =>
    obtain ⟨j, b⟩ := jb
    rw [hgd] at hg
    simp only at hg
    obtain ⟨oj, d, h1, h2, h3, h4⟩ := hg
    rw [h4]
    show (yielded ops a.tmps j == some b) = isB b (fr.get (Pt.ofNat d))
    rw [isB_rel (hf.2 d h3)]
    have hlt : d < a.tmps.size := by rw [hf.1]; exact h3
    have hget : a.tmps[d]? = some (a.tmps.getD d undef) := by simp [Array.getD_eq_getD_getElem?, hlt]
    unfold yielded
    simp only [h1, Option.bind_some, h2, hget]
    generalize a.tmps.getD d undef = v
    cases v <;> first | rfl | (rename_i b'; cases b <;> cases b' <;> rfl)

/-- the list made of a region's operations, from the i-th on -/
inductive RegOK (P : Program) (R G N : Nat) (ops : Array Oper) : Nat → List HR → Prop
  | nil {i} : ops.size ≤ i → RegOK P R G N ops i []
  | cons {i o h hs} : ops[i]? = some o → HROK P R G N ops o h → RegOK P R G N ops (i + 1) hs → RegOK P R G N ops i (h :: hs)

/-! ### code -/
inductive CodeOK (P : Program) (R G N : Nat) : Code → HC → Prop
  | skip : CodeOK P R G N .skip .skip
  | region {id ops hs} : RegOK P R G N ops 0 hs → CodeOK P R G N (.region id ops false) (.region hs)
  | draws {id ops hs ps} : RegOK P R G N ops 0 hs → (∀ (rd : Option Nat) (call : CallF) (k : Fr → M → Res) (fr : Fr) (s : M) (r : Value × M) (B : Nat) (ρ : Rho) (a : Act) (w : World) (Q : Exit → Act → World → Prop), CallOK P R G call → evD call (fun tr fr' s' => bif pairsOk hs tr ps then k fr' s' else none) hs [] fr s = some r → Sim G B ρ s w → FrR N ρ fr a.tmps → R ≤ s.next → (∀ fr' s', k fr' s' = some r → s'.next ≤ B) →
      (∀ (fr' : Fr) (s' : M) (ρ' : Rho) (a' : Act) (w' : World), k fr' s' = some r → Ext R B ρ s w ρ' s' w' → Sim G B ρ' s' w' → FrR N ρ' fr' a'.tmps → a'.defers = a.defers → Q Exit.normal a' w') → (Code.region id ops true).wpIn (Wd rd) 0 P Q a w) → CodeOK P R G N (.region id ops true) (.draws hs ps)
  | seq {a b a' b'} : CodeOK P R G N a a' → CodeOK P R G N b b' → CodeOK P R G N (.seq a b) (.seq a' b')
  | cond {c c' a b a' b'} : cOpd G N c = some c' → CodeOK P R G N a a' → CodeOK P R G N b b' → CodeOK P R G N (.cond c a b) (.cond c' a' b')
  | block {id b b'} : CodeOK P R G N b b' → CodeOK P R G N (.block id b) (.block id b')
  | loop {b b'} : CodeOK P R G N b b' → CodeOK P R G N (.loop b) (.loop b')
  | exit {id} : CodeOK P R G N (.exit id) (.exit id)
  | ret : CodeOK P R G N .ret .ret
  | bad {c} : CodeOK P R G N c .bad


/-! ### what is told does not hang on what follows -/
def UnifF (s : M) (f : (Fr → M → Res) → Res) : Prop := ∀ k r, f k = some r → ∃ fr s', s.next ≤ s'.next ∧ ∀ k2, f k2 = k2 fr s'
def UnifD (s : M) (f : (List En → Fr → M → Res) → Res) : Prop := ∀ k r, f k = some r → ∃ tr fr s', s.next ≤ s'.next ∧ ∀ k2, f k2 = k2 tr fr s'
def UnifE (s : M) (f : KE → Res) : Prop := ∀ k r, f k = some r → ∃ e fr s', s.next ≤ s'.next ∧ ∀ k2, f k2 = k2 e fr s'

section
variable {P : Program} {R G N : Nat} {call : CallF}
theorem evR_unif (hG : G ≤ R) (hc : CallOK P R G call) {ops : Array Oper} : ∀ (hs : List HR) (i : Nat), RegOK P R G N ops i hs → ∀ (fr : Fr) (s : M), UnifF s (fun k => evR call k hs fr s) := by
  intro hs
  induction hs with
  | nil => intro i _ fr s k r hr; exact ⟨fr, s, Nat.le_refl _, fun k2 => rfl⟩
  | cons o hs ih =>
    intro i hreg fr s k r hr
    cases hreg with
    | cons g1 g2 g3 =>
    have hsh : ∀ k2, evR call k2 (o :: hs) fr s = Bool.rec (motive := fun _ => Res) (evR call k2 hs (putD o.dst undefV fr) s) (doOp call fr s (fun v s' => evR call k2 hs (putD o.dst v fr) s') o.op) (wants fr o.guard) := fun k2 => (evR_cons _ _ _ _ _ _)
    have hr' := hr
    simp only [hsh] at hr'
    cases hw : wants fr o.guard with
    | false =>
      rw [hw] at hr'
      obtain ⟨fr', s', hm, h⟩ := ih _ g3 _ _ _ _ hr'
      exact ⟨fr', s', hm, fun k2 => by show evR call k2 (o :: hs) fr s = _; rw [hsh, hw]; exact h k2⟩
    | true =>
      rw [hw] at hr'
      obtain ⟨v, s1, h0, hm1, h1, _⟩ := doOp_told hG hc g2.op hr'
      obtain ⟨fr', s', hm, h⟩ := ih _ g3 _ _ _ _ h0
      exact ⟨fr', s', Nat.le_trans hm1 hm, fun k2 => by show evR call k2 (o :: hs) fr s = _; rw [hsh, hw]; simp only; rw [h1]; exact h k2⟩

theorem evD_unif (hG : G ≤ R) (hc : CallOK P R G call) {ops : Array Oper} : ∀ (hs : List HR) (i : Nat), RegOK P R G N ops i hs → ∀ (tr : List En) (fr : Fr) (s : M), UnifD s (fun k => evD call k hs tr fr s) := by
  intro hs
  induction hs with
  | nil => intro i _ tr fr s k r hr; exact ⟨tr, fr, s, Nat.le_refl _, fun k2 => rfl⟩
  | cons o hs ih =>
    intro i hreg tr fr s k r hr
    cases hreg with
    | cons g1 g2 g3 =>
    have hsh : ∀ k2, evD call k2 (o :: hs) tr fr s = Bool.rec (motive := fun _ => Res) (evD call k2 hs (tr ++ [⟨false, fr, s, undefV, s⟩]) (putD o.dst undefV fr) s) (doOp call fr s (fun v s' => evD call k2 hs (tr ++ [⟨true, fr, s, v, s'⟩]) (putD o.dst v fr) s') o.op) (wants fr o.guard) := fun k2 => (evD_cons _ _ _ _ _ _ _)
    have hr' := hr
    simp only [hsh] at hr'
    cases hw : wants fr o.guard with
    | false =>
      rw [hw] at hr'
      obtain ⟨tr', fr', s', hm, h⟩ := ih _ g3 _ _ _ _ _ hr'
      exact ⟨tr', fr', s', hm, fun k2 => by show evD call k2 (o :: hs) tr fr s = _; rw [hsh, hw]; exact h k2⟩
    | true =>
      rw [hw] at hr'
      obtain ⟨v, s1, h0, hm1, h1, _⟩ := doOp_told hG hc g2.op hr'
      obtain ⟨tr', fr', s', hm, h⟩ := ih _ g3 _ _ _ _ _ h0
      exact ⟨tr', fr', s', Nat.le_trans hm1 hm, fun k2 => by show evD call k2 (o :: hs) tr fr s = _; rw [hsh, hw]; simp only; rw [h1]; exact h k2⟩

theorem evC_unif (hG : G ≤ R) (hc : CallOK P R G call) {c : Code} {h : HC} (hok : CodeOK P R G N c h) : ∀ (fr : Fr) (s : M), UnifE s (fun k => evC call h k fr s) := by
  induction hok with
  | skip => intro fr s k r hr; exact ⟨.normal, fr, s, Nat.le_refl _, fun k2 => rfl⟩
  | region hreg =>
    intro fr s k r hr
    obtain ⟨fr', s', hm, h⟩ := evR_unif hG hc _ _ hreg fr s (k .normal) r hr
    exact ⟨.normal, fr', s', hm, fun k2 => h (k2 .normal)⟩
  | draws hreg _ =>
    rename_i hs ps _
    intro fr s k r hr
    obtain ⟨tr, fr', s', hm, h⟩ := evD_unif hG hc _ _ hreg [] fr s _ r hr
    have e1 : evC call (.draws hs ps) k fr s = bif pairsOk hs tr ps then k .normal fr' s' else none := h _
    have hr3 : (bif pairsOk hs tr ps then k .normal fr' s' else none) = some r := e1.symm.trans hr
    cases hp : pairsOk hs tr ps with
    | false => rw [hp] at hr3; cases hr3
    | true =>
      refine ⟨.normal, fr', s', hm, fun k2 => ?_⟩
      have e2 : evC call (.draws hs ps) k2 fr s = bif pairsOk hs tr ps then k2 .normal fr' s' else none := h _
      show evC call (.draws hs ps) k2 fr s = _
      rw [e2, hp]; rfl
  | seq _ _ iha ihb =>
    rename_i a b a' b' _ _
    intro fr s k r hr
    obtain ⟨e, fr', s', hm, h⟩ := iha fr s (seqK (evC call b' k) k) r hr
    have hr2 : seqK (evC call b' k) k e fr' s' = some r := (h _).symm.trans hr
    cases e with
    | normal =>
      obtain ⟨e2, fr2, s2, hm2, h2⟩ := ihb fr' s' k r hr2
      exact ⟨e2, fr2, s2, Nat.le_trans hm hm2, fun k2 => (h (seqK (evC call b' k2) k2)).trans (h2 k2)⟩
    | exit id => exact ⟨.exit id, fr', s', hm, fun k2 => h (seqK (evC call b' k2) k2)⟩
    | ret => exact ⟨.ret, fr', s', hm, fun k2 => h (seqK (evC call b' k2) k2)⟩
  | cond _ _ _ iha ihb =>
    rename_i c c' a b a' b' _ _ _
    intro fr s k r hr
    have hr2 : condK (evC call a' k fr s) (evC call b' k fr s) (ev fr c') = some r := hr
    have hsh : ∀ k2, evC call (.cond c' a' b') k2 fr s = condK (evC call a' k2 fr s) (evC call b' k2 fr s) (ev fr c') := fun _ => rfl
    unfold condK at hr2
    split at hr2
    · rename_i heq
      obtain ⟨e, fr', s', hm, h⟩ := iha fr s k r hr2
      exact ⟨e, fr', s', hm, fun k2 => by show evC call (.cond c' a' b') k2 fr s = _; rw [hsh, heq]; exact h k2⟩
    · rename_i heq
      obtain ⟨e, fr', s', hm, h⟩ := ihb fr s k r hr2
      exact ⟨e, fr', s', hm, fun k2 => by show evC call (.cond c' a' b') k2 fr s = _; rw [hsh, heq]; exact h k2⟩
    · cases hr2
  | block _ ih =>
    rename_i id b b' _
    intro fr s k r hr
    obtain ⟨e, fr', s', hm, h⟩ := ih fr s (blockK id k) r hr
    have hsh : ∀ k2, evC call (.block id b') k2 fr s = blockK id k2 e fr' s' := fun k2 => h (blockK id k2)
    cases e with
    | normal => exact ⟨.normal, fr', s', hm, hsh⟩
    | ret => exact ⟨.ret, fr', s', hm, hsh⟩
    | exit j =>
      cases hj : Nat.beq j id with
      | true => exact ⟨.normal, fr', s', hm, fun k2 => (hsh k2).trans (by simp only [blockK, hj]; rfl)⟩
      | false => exact ⟨.exit j, fr', s', hm, fun k2 => (hsh k2).trans (by simp only [blockK, hj]; rfl)⟩
  | loop _ ih =>
    rename_i b b' _
    intro fr s k r hr
    have key : ∀ (n : Nat) (fr : Fr) (s : M) (k : KE) (r : Value × M), loopF n (evC call b') k fr s = some r → ∃ e fr' s', s.next ≤ s'.next ∧ ∀ k2, loopF n (evC call b') k2 fr s = k2 e fr' s' := by
      intro n
      induction n with
      | zero => intro fr s k r hr; cases hr
      | succ n ihn =>
        intro fr s k r hr
        obtain ⟨e, fr', s', hm, h⟩ := ih fr s (seqK (loopF n (evC call b') k) k) r hr
        have hr2 : seqK (loopF n (evC call b') k) k e fr' s' = some r := (h _).symm.trans hr
        cases e with
        | normal =>
          obtain ⟨e2, fr2, s2, hm2, h2⟩ := ihn fr' s' k r hr2
          exact ⟨e2, fr2, s2, Nat.le_trans hm hm2, fun k2 => (h (seqK (loopF n (evC call b') k2) k2)).trans (h2 k2)⟩
        | exit id => exact ⟨.exit id, fr', s', hm, fun k2 => h (seqK (loopF n (evC call b') k2) k2)⟩
        | ret => exact ⟨.ret, fr', s', hm, fun k2 => h (seqK (loopF n (evC call b') k2) k2)⟩
    exact key loopMost fr s k r hr
  | exit => intro fr s k r hr; exact ⟨.exit _, fr, s, Nat.le_refl _, fun k2 => rfl⟩
  | ret => intro fr s k r hr; exact ⟨.ret, fr, s, Nat.le_refl _, fun k2 => rfl⟩
  | bad => intro fr s k r hr; cases hr
end

theorem evR_sound {P : Program} {R G N : Nat} (hG : G ≤ R) {call : CallF} (hcall : CallOK P R G call) {ops : Array Oper} {k : Fr → M → Res} {r : Value × M} {rd : Option Nat} {Q : Exit → Act → World → Prop} :
    ∀ (n i : Nat) (hs : List HR), i + n = ops.size → RegOK P R G N ops i hs → ∀ (fr : Fr) (s : M) (B : Nat) (ρ : Rho) (a : Act) (w : World), evR call k hs fr s = some r → Sim G B ρ s w → FrR N ρ fr a.tmps → R ≤ s.next → (∀ fr' s', k fr' s' = some r → s'.next ≤ B) →
      (∀ fr' s' ρ' a' w', k fr' s' = some r → Ext R B ρ s w ρ' s' w' → Sim G B ρ' s' w' → FrR N ρ' fr' a'.tmps → a'.defers = a.defers → Q .normal a' w') → wpOpsIn (Wd rd) 0 P ops Q (List.range' i n) a w := by
  intro n
  induction n with
  | zero =>
    intro i hs hin hreg fr s B ρ a w hev hsim hfr hR hB hk
    cases hreg with
    | nil h => exact hk fr s ρ a w hev (Ext.refl _ _ _ _ _) hsim hfr rfl
    | cons h1 _ _ =>
      rw [Array.getElem?_eq_none (by omega)] at h1; cases h1
  | succ n ih =>
    intro i hs hin hreg fr s B ρ a w hev hsim hfr hR hB hk
    cases hreg with
    | nil h => omega
    | cons h1 h2 h3 =>
      rename_i o h hs
      rw [List.range'_succ]
      simp only [wpOpsIn, h1]
      rw [wants_rel h2 hfr]
      have hev' : Bool.rec (motive := fun _ => Res) (evR call k hs (putD h.dst undefV fr) s) (doOp call fr s (fun v s' => evR call k hs (putD h.dst v fr) s') h.op) (wants fr h.guard) = some r := (evR_cons _ _ _ _ _ _).symm.trans hev
      cases hw : wants fr h.guard with
      | false =>
        rw [hw] at hev'
        simp only [Bool.false_eq_true, if_false]
        rw [h2.dst] at hev'
        refine ⟨fun _ _ => trivial, ih (i + 1) hs (by omega) h3 _ s B ρ _ w hev' hsim (hfr.put (VRundef ρ)) hR hB fun fr' s' ρ' a' w' q1 q2 q3 q4 q5 => hk fr' s' ρ' a' w' q1 q2 q3 q4 (by rw [q5]; cases o.dst <;> rfl)⟩
      | true =>
        rw [hw] at hev'
        simp only [if_true]
        obtain ⟨v, s', hk', hm, _, htold⟩ := doOp_told hG hcall h2.op hev'
        have hsB : s'.next ≤ B := by
          obtain ⟨frx, sx, hmx, hux⟩ := evR_unif hG hcall _ _ h3 _ _ _ _ hk'
          exact Nat.le_trans hmx (hB frx sx ((hux k).symm.trans hk'))
        refine htold B ρ w a hsim hfr hR hsB rd _ _ fun v' ρ' w' r1 r2 r3 => ?_
        rw [h2.dst] at hk'
        refine ih (i + 1) hs (by omega) h3 _ s' B ρ' _ w' hk' r3 ((hfr.mono r2.le).put r1) (Nat.le_trans hR r2.next) hB fun fr' s'' ρ'' a' w'' q1 q2 q3 q4 q5 => hk fr' s'' ρ'' a' w'' q1 (r2.trans q2) q3 q4 (by rw [q5]; cases o.dst <;> rfl)

theorem region_sound {P : Program} {R G N : Nat} (hG : G ≤ R) {call : CallF} (hcall : CallOK P R G call) {id : Nat} {ops : Array Oper} {hs : List HR} {k : Fr → M → Res} {r : Value × M} {rd : Option Nat} {Q : Exit → Act → World → Prop} (hreg : RegOK P R G N ops 0 hs)
    {fr : Fr} {s : M} {B : Nat} {ρ : Rho} {a : Act} {w : World} (hev : evR call k hs fr s = some r) (hsim : Sim G B ρ s w) (hfr : FrR N ρ fr a.tmps) (hR : R ≤ s.next) (hB : ∀ fr' s', k fr' s' = some r → s'.next ≤ B)
    (hk : ∀ fr' s' ρ' a' w', k fr' s' = some r → Ext R B ρ s w ρ' s' w' → Sim G B ρ' s' w' → FrR N ρ' fr' a'.tmps → a'.defers = a.defers → Q .normal a' w') : (Code.region id ops false).wpIn (Wd rd) 0 P Q a w := by
  refine wpIn_region ?_
  rw [List.range_eq_range']
  exact evR_sound hG hcall ops.size 0 hs (by omega) hreg fr s B ρ a w hev hsim hfr hR hB hk

def exOf : Ex → Exit
  | .normal => .normal
  | .exit id => .exit id
  | .ret => .ret

theorem evC_sound {P : Program} {R G N : Nat} (hG : G ≤ R) {call : CallF} (hcall : CallOK P R G call) {c : Code} {h : HC} (hok : CodeOK P R G N c h) :
    ∀ (rd : Option Nat) (k : KE) (fr : Fr) (s : M) (r : Value × M) (B : Nat) (ρ : Rho) (a : Act) (w : World) (Q : Exit → Act → World → Prop), evC call h k fr s = some r → Sim G B ρ s w → FrR N ρ fr a.tmps → R ≤ s.next → (∀ e fr' s', k e fr' s' = some r → s'.next ≤ B) →
      (∀ e fr' s' ρ' a' w', k e fr' s' = some r → Ext R B ρ s w ρ' s' w' → Sim G B ρ' s' w' → FrR N ρ' fr' a'.tmps → a'.defers = a.defers → Q (exOf e) a' w') → c.wpIn (Wd rd) 0 P Q a w := by
  induction hok with
  | skip => intro rd k fr s r B ρ a w Q hev hs hf hR hB hk; exact wpIn_skip (hk .normal fr s ρ a w hev (Ext.refl _ _ _ _ _) hs hf rfl)
  | region hreg =>
    intro rd k fr s r B ρ a w Q hev hs hf hR hB hk
    exact region_sound hG hcall hreg (k := k .normal) hev hs hf hR (hB .normal) fun fr' s' ρ' a' w' q1 q2 q3 q4 q5 => hk .normal fr' s' ρ' a' w' q1 q2 q3 q4 q5
  | draws _ hd =>
    intro rd k fr s r B ρ a w Q hev hs hf hR hB hk
    exact hd rd call (k .normal) fr s r B ρ a w Q hcall hev hs hf hR (hB .normal) fun fr' s' ρ' a' w' q1 q2 q3 q4 q5 => hk .normal fr' s' ρ' a' w' q1 q2 q3 q4 q5
  | seq _ hokb iha ihb =>
    rename_i b b' _
    intro rd k fr s r B ρ a w Q hev hs hf hR hB hk
    refine wpIn_seq (iha rd _ fr s r B ρ a w _ hev hs hf hR (fun e fr' s' q1 => ?_) fun e fr' s' ρ' a' w' q1 q2 q3 q4 q5 => ?_)
    · cases e with
      | normal =>
        obtain ⟨e2, fr2, s2, hm2, h2⟩ := evC_unif hG hcall hokb fr' s' k r q1
        exact Nat.le_trans hm2 (hB e2 fr2 s2 ((h2 k).symm.trans q1))
      | exit id => exact hB _ _ _ q1
      | ret => exact hB _ _ _ q1
    cases e with
    | normal =>
      exact ihb rd k fr' s' r B ρ' a' w' Q q1 q3 q4 (Nat.le_trans hR q2.next) hB fun e fr'' s'' ρ'' a'' w'' p1 p2 p3 p4 p5 => hk e fr'' s'' ρ'' a'' w'' p1 (q2.trans p2) p3 p4 (p5.trans q5)
    | exit id => exact hk (.exit id) fr' s' ρ' a' w' q1 q2 q3 q4 q5
    | ret => exact hk .ret fr' s' ρ' a' w' q1 q2 q3 q4 q5
  | cond hc _ _ iha ihb =>
    intro rd k fr s r B ρ a w Q hev hs hf hR hB hk
    have hev' : condK (evC call _ k fr s) (evC call _ k fr s) (ev fr _) = some r := hev
    have hv := opd_rel hs hf hc
    unfold condK at hev'
    split at hev'
    · rename_i heq
      rw [heq] at hv
      generalize hq : a.eval _ = q at hv
      cases hv
      exact wpIn_cond_true hq (iha rd k fr s r B ρ a w Q hev' hs hf hR hB hk)
    · rename_i heq
      rw [heq] at hv
      generalize hq : a.eval _ = q at hv
      cases hv
      exact wpIn_cond_false hq (ihb rd k fr s r B ρ a w Q hev' hs hf hR hB hk)
    · cases hev'
  | block _ ih =>
    rename_i id b b' _
    intro rd k fr s r B ρ a w Q hev hs hf hR hB hk
    refine wpIn_block (ih rd (blockK id k) fr s r B ρ a w _ hev hs hf hR (fun e fr' s' q1 => ?_) fun e fr' s' ρ' a' w' q1 q2 q3 q4 q5 => ?_)
    · cases e with
      | normal => exact hB _ _ _ q1
      | ret => exact hB _ _ _ q1
      | exit j =>
        simp only [blockK] at q1
        cases hj : Nat.beq j id with
        | true => rw [hj] at q1; exact hB _ _ _ q1
        | false => rw [hj] at q1; exact hB _ _ _ q1
    cases e with
    | normal => exact hk .normal fr' s' ρ' a' w' q1 q2 q3 q4 q5
    | ret => exact hk .ret fr' s' ρ' a' w' q1 q2 q3 q4 q5
    | exit j =>
      simp only [blockK] at q1
      cases hj : Nat.beq j id with
      | true =>
        rw [hj] at q1
        have := Nat.eq_of_beq_eq_true hj; subst this
        have := hk .normal fr' s' ρ' a' w' q1 q2 q3 q4 q5
        simpa [Exit.inBlock, exOf] using this
      | false =>
        rw [hj] at q1
        have hne : j ≠ id := fun e => by subst e; simp at hj
        have := hk (.exit j) fr' s' ρ' a' w' q1 q2 q3 q4 q5
        simpa [Exit.inBlock, exOf, hne] using this
  | loop hokb ih =>
    rename_i b b'
    intro rd k fr s r B ρ a w Q hev hs hf hR hB hk
    have key : ∀ (n : Nat) (fr : Fr) (s : M) (ρ1 : Rho) (a1 : Act) (w1 : World), loopF n (evC call b') k fr s = some r → Sim G B ρ1 s w1 → FrR N ρ1 fr a1.tmps → R ≤ s.next →
        (∀ e fr' s' ρ' a' w', k e fr' s' = some r → Ext R B ρ1 s w1 ρ' s' w' → Sim G B ρ' s' w' → FrR N ρ' fr' a'.tmps → a'.defers = a1.defers → Q (exOf e) a' w') → Code.roundsIn (Wd rd) 0 P b Q n a1 w1 := by
      intro n
      induction n with
      | zero => intro fr s ρ1 a1 w1 hl; cases hl
      | succ n ihn =>
        intro fr s ρ1 a1 w1 hl hs1 hf1 hR1 hk1
        show Code.wpIn _ _ _ _ _ _ _
        have hun : ∀ (n : Nat) (fr : Fr) (s : M), loopF n (evC call b') k fr s = some r → s.next ≤ B := by
          intro n
          induction n with
          | zero => intro fr s h; cases h
          | succ n ihu =>
            intro fr s h
            obtain ⟨e, fr', s', hm, hu⟩ := evC_unif hG hcall hokb fr s (seqK (loopF n (evC call b') k) k) r h
            have h2 : seqK (loopF n (evC call b') k) k e fr' s' = some r := (hu _).symm.trans h
            cases e with
            | normal => exact Nat.le_trans hm (ihu fr' s' h2)
            | exit id => exact Nat.le_trans hm (hB _ _ _ h2)
            | ret => exact Nat.le_trans hm (hB _ _ _ h2)
        refine ih rd (seqK (loopF n (evC call b') k) k) fr s r B ρ1 a1 w1 _ hl hs1 hf1 hR1 (fun e fr' s' q1 => ?_) fun e fr' s' ρ' a' w' q1 q2 q3 q4 q5 => ?_
        · cases e with
          | normal => exact hun n fr' s' q1
          | exit id => exact hB _ _ _ q1
          | ret => exact hB _ _ _ q1
        cases e with
        | normal => exact ihn fr' s' ρ' a' w' q1 q3 q4 (Nat.le_trans hR1 q2.next) fun e fr'' s'' ρ'' a'' w'' p1 p2 p3 p4 p5 => hk1 e fr'' s'' ρ'' a'' w'' p1 (q2.trans p2) p3 p4 (p5.trans q5)
        | exit id => exact hk1 (.exit id) fr' s' ρ' a' w' q1 q2 q3 q4 q5
        | ret => exact hk1 .ret fr' s' ρ' a' w' q1 q2 q3 q4 q5
    exact wpIn_loop_rounds loopMost (key loopMost fr s ρ a w hev hs hf hR hk)
  | exit => intro rd k fr s r B ρ a w Q hev hs hf hR hB hk; exact wpIn_exit (hk (.exit _) fr s ρ a w hev (Ext.refl _ _ _ _ _) hs hf rfl)
  | ret => intro rd k fr s r B ρ a w Q hev hs hf hR hB hk; exact wpIn_ret (hk .ret fr s ρ a w hev (Ext.refl _ _ _ _ _) hs hf rfl)
  | bad => intro rd k fr s r B ρ a w Q hev; cases hev
end Go.HM
