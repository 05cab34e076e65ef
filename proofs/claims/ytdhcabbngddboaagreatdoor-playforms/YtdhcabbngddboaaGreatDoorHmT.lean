import Derived.Test.YtdhcabbngddboaaGreatDoorHmR
set_option linter.unusedVariables false
set_option linter.unusedSimpArgs false
namespace Go.HM

/-- the frame after those operations that have run -/
noncomputable def frS (hs : List HR) (vs : Nat → Value) (fr0 : Fr) (L : Array Bool) : Nat → Fr
  | 0 => fr0
  | j + 1 => if L.getD j false = true then (match hs[j]? with | some h => putD h.dst (vs j) (frS hs vs fr0 L j) | none => frS hs vs fr0 L j) else frS hs vs fr0 L j

theorem putD_get (d : Option Pt) (v : Value) (fr : Fr) (p : Pt) : (putD d v fr).get p = if d = some p then v else fr.get p := by
  cases d with
  | none => simp [putD]
  | some d =>
    show (fr.set d v).get p = _
    rw [Fr.get_set]
    by_cases e : p = d
    · subst e; simp
    · rw [if_neg e, if_neg (fun h => e (Option.some.inj h).symm)]

theorem ev_congr {fr fr' : Fr} {x : Opd} (h : ∀ p, x = .t p → fr.get p = fr'.get p) : ev fr x = ev fr' x := by
  cases x with
  | t p => exact h p rfl
  | c v => rfl
theorem evs_congr {fr fr' : Fr} : ∀ {xs : List Opd}, (∀ p, Opd.t p ∈ xs → fr.get p = fr'.get p) → evs fr xs = evs fr' xs := by
  intro xs
  induction xs with
  | nil => intro _; rfl
  | cons x xs ih =>
    intro h
    show ev fr x :: evs fr xs = ev fr' x :: evs fr' xs
    rw [ev_congr (fun p e => h p (by rw [e]; exact List.mem_cons_self)), ih fun p hp => h p (List.mem_cons_of_mem _ hp)]
theorem doOp_congr {call : CallF} {fr fr' : Fr} {s : M} {k : KV} {h : HOp} (hh : evs fr h.opds = evs fr' h.opds) : doOp call fr s k h = doOp call fr' s k h := by
  cases h with
  | mv x => show k (ev fr x) s = k (ev fr' x) s; rw [(List.cons.inj hh).1]
  | p1 f x => show kO _ (f (ev fr x)) = kO _ (f (ev fr' x)); rw [(List.cons.inj hh).1]
  | p2 f x y => show kO _ (f (ev fr x) (ev fr y)) = kO _ (f (ev fr' x) (ev fr' y)); rw [(List.cons.inj hh).1, (List.cons.inj (List.cons.inj hh).2).1]
  | pn f xs => show kO _ (f (evs fr xs)) = kO _ (f (evs fr' xs)); rw [show evs fr xs = evs fr' xs from hh]
  | rd f xs => show kO _ (f (evs fr xs) s) = kO _ (f (evs fr' xs) s); rw [show evs fr xs = evs fr' xs from hh]
  | al f xs => show opK (.al f xs) call fr s k = opK (.al f xs) call fr' s k; rw [opK_al, opK_al]; rw [show evs fr xs = evs fr' xs from hh]
  | ef f xs => show opK (.ef f xs) call fr s k = opK (.ef f xs) call fr' s k; rw [opK_ef, opK_ef]; rw [show evs fr xs = evs fr' xs from hh]
  | call f xs => show callV call (evs fr xs) s k (ev fr f) = callV call (evs fr' xs) s k (ev fr' f); rw [(List.cons.inj hh).1, show evs fr xs = evs fr' xs from (List.cons.inj hh).2]
  | inv g x xs => show invV call (evs fr xs) s k (g (ev fr x)) = invV call (evs fr' xs) s k (g (ev fr' x)); rw [(List.cons.inj hh).1, show evs fr xs = evs fr' xs from (List.cons.inj hh).2]
  | bad => rfl
theorem wants_congr {fr fr' : Fr} {g : Option (Pt × Bool)} (h : ∀ p b, g = some (p, b) → fr.get p = fr'.get p) : wants fr g = wants fr' g := by
  cases g with
  | none => rfl
  | some pb => show isB pb.2 (fr.get pb.1) = isB pb.2 (fr'.get pb.1); rw [h pb.1 pb.2 rfl]

/-- one operation that did run, at its place -/
theorem Step.al {call : CallF} {h : HR} {fr fr' : Fr} {s s' : M} {v : Value} {ran : Bool} (hs : Step call h fr fr' s s' v ran) (hr : ran = true) {f : AL} {xs : List Opd} (ho : h.op = .al f xs) :
    ∃ o mk, f (evs fr xs) = some (o, mk) ∧ v = mk s.next ∧ s' = alloc s o := by
  have := (hs.yes hr).2 fun v s => some (v, s)
  rw [ho] at this
  have h2 : kA s (fun v s => some (v, s)) (f (evs fr xs)) = some (v, s') := (opK_al call f xs fr s (fun v s => some (v, s))).symm.trans this
  cases hf : f (evs fr xs) with
  | none => rw [hf] at h2; cases h2
  | some p =>
    rw [hf] at h2
    obtain ⟨o, mk⟩ := p
    have h3 : some (mk s.next, alloc s o) = some (v, s') := h2
    rw [Option.some.injEq, Prod.mk.injEq] at h3
    exact ⟨o, mk, rfl, h3.1.symm, h3.2.symm⟩
theorem Step.still {call : CallF} {h : HR} {fr fr' : Fr} {s s' : M} {v : Value} {ran : Bool} (hs : Step call h fr fr' s s' v ran) (he : (h.op.isEff && ran) = false) (ha : (h.op.isAl && ran) = false) : s' = s := by
  cases hr : ran with
  | false => exact (hs.no hr).2
  | true =>
    rw [hr] at ha he
    have h2 := (hs.yes hr).2 fun v s => some (v, s)
    cases ho : h.op with
    | mv x => rw [ho] at h2; have h3 : some (ev fr x, s) = some (v, s') := h2; rw [Option.some.injEq, Prod.mk.injEq] at h3; exact h3.2.symm
    | p1 f x =>
      rw [ho] at h2; obtain ⟨w, _, h3⟩ := kO_some (x := f (ev fr x)) h2
      rw [Option.some.injEq, Prod.mk.injEq] at h3; exact h3.2.symm
    | p2 f x y =>
      rw [ho] at h2; obtain ⟨w, _, h3⟩ := kO_some (x := f (ev fr x) (ev fr y)) h2
      rw [Option.some.injEq, Prod.mk.injEq] at h3; exact h3.2.symm
    | pn f xs =>
      rw [ho] at h2; obtain ⟨w, _, h3⟩ := kO_some (x := f (evs fr xs)) h2
      rw [Option.some.injEq, Prod.mk.injEq] at h3; exact h3.2.symm
    | rd f xs =>
      rw [ho] at h2; obtain ⟨w, _, h3⟩ := kO_some (x := f (evs fr xs) s) h2
      rw [Option.some.injEq, Prod.mk.injEq] at h3; exact h3.2.symm
    | al f xs => rw [ho] at ha; simp [HOp.isAl] at ha
    | ef f xs => rw [ho] at he; simp [HOp.isEff] at he
    | call f xs => rw [ho] at he; simp [HOp.isEff] at he
    | inv g x xs => rw [ho] at he; simp [HOp.isEff] at he
    | bad => rw [ho] at h2; cases h2

/-- all there is to know of one run of a drawn region -/
structure Draw (P : Program) (R G N : Nat) (call : CallF) (ops : Array Oper) (hs : List HR) (ps : List (Nat × Nat)) (st : Nat → M) (frs : Nat → Fr) (vs : Nat → Value) (ran : Nat → Bool) (B : Nat) : Prop where
  hG : G ≤ R
  hcall : CallOK P R G call
  len : hs.length = ops.size
  get : ∀ (j : Nat) (o : Oper), ops[j]? = some o → ∃ h, hs[j]? = some h ∧ HROK P R G N ops o h
  ok : DrawOK ops hs ps
  step : ∀ (j : Nat) (h : HR), hs[j]? = some h → Step call h (frs j) (frs (j + 1)) (st j) (st (j + 1)) (vs j) (ran j)
  pairs : ∀ (i j : Nat) (hi hj : HR), (i, j) ∈ ps → hs[i]? = some hi → hs[j]? = some hj → ran i = true → ran j = true → sameRead hi.op ⟨ran i, frs i, st i, vs i, st (i + 1)⟩ (bif Nat.blt i j then st (j + 1) else st j) = true
  R0 : R ≤ (st 0).next
  hB : (st hs.length).next ≤ B

section
variable {P : Program} {R G N : Nat} {call : CallF} {ops : Array Oper} {hs : List HR} {ps : List (Nat × Nat)} {st : Nat → M} {frs : Nat → Fr} {vs : Nat → Value} {ran : Nat → Bool} {B : Nat}

theorem Draw.mono (D : Draw P R G N call ops hs ps st frs vs ran B) : ∀ {i j}, i ≤ j → j ≤ hs.length → (st i).next ≤ (st j).next := by
  intro i j hij
  induction j with
  | zero => intro _; have : i = 0 := by omega
            subst this; exact Nat.le_refl _
  | succ j ih =>
    intro hj
    rcases Nat.lt_or_ge i (j + 1) with h | h
    · have h1 := ih (by omega) (by omega)
      have h2 : hs[j]? = some hs[j] := List.getElem?_eq_getElem (by omega)
      exact Nat.le_trans h1 (D.step j _ h2).mono
    · have : i = j + 1 := by omega
      subst this; exact Nat.le_refl _

/-- blocks made between -/
theorem Draw.alNext (D : Draw P R G N call ops hs ps st frs vs ran B) {x : Nat} {h : HR} (hx : hs[x]? = some h) (ha : h.op.isAl = true) (hr : ran x = true) : ∃ o, st (x + 1) = alloc (st x) o := by
  cases ho : h.op with
  | al f xs => obtain ⟨o, mk, _, _, h3⟩ := (D.step x h hx).al hr ho; exact ⟨o, h3⟩
  | _ => rw [ho] at ha; cases ha
theorem Draw.alLt (D : Draw P R G N call ops hs ps st frs vs ran B) {x : Nat} {h : HR} (hx : hs[x]? = some h) (ha : h.op.isAl = true) (hr : ran x = true) : (st (x + 1)).next = (st x).next + 1 := by
  obtain ⟨o, h1⟩ := D.alNext hx ha hr
  rw [h1]; rfl

/-- what holds when the operations listed have run, and position p is where memory stands -/
structure DI (D : Draw P R G N call ops hs ps st frs vs ran B) (ρ0 : Rho) (a0 : Act) (w0 : World) (L : Array Bool) (p : Nat) (ρ : Rho) (a : Act) (w : World) : Prop where
  size : L.size = hs.length
  clo : ∀ i j, Bef ops i j → L.getD j false = true → L.getD i false = true
  pn : p ≤ hs.length
  pb : ∀ (j : Nat) (h : HR), j < p → hs[j]? = some h → (h.op.isEff && ran j) = true → L.getD j false = true
  pa : ∀ (j : Nat) (h : HR), p ≤ j → hs[j]? = some h → (h.op.isEff && ran j) = true → L.getD j false = false
  ext : Ext R B ρ0 (st 0) w0 ρ (st p) w
  sim : Sim G (st p).next ρ (st p) w
  un : ∀ (x : Nat) (h : HR), hs[x]? = some h → h.op.isAl = true → ran x = true → L.getD x false = false → ρ (st x).next = none ∧ (x < p → (st p).mem.get (st x).next = (st (x + 1)).mem.get (st x).next)
  early : ∀ (x : Nat) (h : HR), p ≤ x → hs[x]? = some h → h.op.isAl = true → ran x = true → L.getD x false = true → ∃ l, ρ (st x).next = some (.live l) ∧ OR ρ l ((st (x + 1)).mem.get (st x).next) w.heap[l.b]?
  rest : ∀ id, (st p).next ≤ id → id < B → ρ id = none ∨ ∃ (x : Nat) (h : HR), p ≤ x ∧ hs[x]? = some h ∧ h.op.isAl = true ∧ ran x = true ∧ L.getD x false = true ∧ id = (st x).next
  frr : FrR N ρ (frS hs vs (frs 0) L hs.length) a.tmps
  df : a.defers = a0.defers

variable {D : Draw P R G N call ops hs ps st frs vs ran B} {ρ0 : Rho} {a0 : Act} {w0 : World}

theorem DI.fwd {L : Array Bool} {p : Nat} {ρ : Rho} {a : Act} {w : World} (d : DI D ρ0 a0 w0 L p ρ a w) {h : HR} (hp : hs[p]? = some h) (he : (h.op.isEff && ran p) = false) : DI D ρ0 a0 w0 L (p + 1) ρ a w := by
  have hpl : p < hs.length := (List.getElem?_eq_some_iff.1 hp).1
  have hpb : ∀ (j : Nat) (h : HR), j < p + 1 → hs[j]? = some h → (h.op.isEff && ran j) = true → L.getD j false = true := by
    intro j h' hj hh hE
    rcases Nat.lt_or_ge j p with h1 | h1
    · exact d.pb j h' h1 hh hE
    · have : j = p := by omega
      subst this; rw [hp] at hh; cases hh; rw [he] at hE; cases hE
  have hmono := (D.step p h hp).mono
  have hext : st (p + 1) = st p → Ext R B ρ0 (st 0) w0 ρ (st (p + 1)) w := fun e => by rw [e]; exact d.ext
  cases ha : (h.op.isAl && ran p) with
  | false =>
    have hst := (D.step p h hp).still he ha
    refine ⟨d.size, d.clo, hpl, hpb, fun j h' hj => d.pa j h' (by omega), by rw [hst]; exact d.ext, by rw [hst]; exact d.sim, fun x h' h1 h2 h3 h4 => ?_, fun x h' h1 => d.early x h' (by omega), fun id h1 h2 => ?_, d.frr, d.df⟩
    · obtain ⟨q1, q2⟩ := d.un x h' h1 h2 h3 h4
      refine ⟨q1, fun hx => ?_⟩
      rw [hst]
      rcases Nat.lt_or_ge x p with h5 | h5
      · exact q2 h5
      · have : x = p := by omega
        subst this; rw [hp] at h1; cases h1; rw [h2, h3] at ha; cases ha
    · rw [hst] at h1
      refine (d.rest id h1 h2).imp (fun h => h) ?_
      rintro ⟨x, h', q1, q2, q3, q4, q5, q6⟩
      refine ⟨x, h', ?_, q2, q3, q4, q5, q6⟩
      rcases Nat.lt_or_ge p x with h5 | h5
      · exact h5
      · have : x = p := by omega
        subst this; rw [hp] at q2; cases q2; rw [q3, q4] at ha; cases ha
  | true =>
    simp only [Bool.and_eq_true] at ha
    obtain ⟨o, hst⟩ := D.alNext hp ha.1 ha.2
    have hnx := D.alLt hp ha.1 ha.2
    have h0p : (st 0).next ≤ (st p).next := D.mono (Nat.zero_le _) (by omega)
    have hR0 := D.R0
    have hpB : (st p).next < B := by
      have := D.mono (i := p + 1) (j := hs.length) hpl (Nat.le_refl _)
      have := D.hB
      omega
    have hmem : ∀ id, id ≠ (st p).next → (st (p + 1)).mem.get id = (st p).mem.get id := by
      intro id hid
      rw [hst]
      show ((st p).mem.set (st p).next o).get id = _
      rw [TM.get_set, if_neg hid]
    have hlive : ∀ l, ρ (st p).next = some l → ∃ l', l = .live l' ∧ OR ρ l' ((st (p + 1)).mem.get (st p).next) w.heap[l'.b]? := by
      intro l hl
      rcases d.rest (st p).next (Nat.le_refl _) hpB with h1 | ⟨x, h', q1, q2, q3, q4, q5, q6⟩
      · rw [h1] at hl; cases hl
      · have hxp : x = p := by
          rcases Nat.lt_or_ge p x with h5 | h5
          · have := D.mono (i := p + 1) (j := x) h5 (by have := (List.getElem?_eq_some_iff.1 q2).1; omega)
            omega
          · omega
        subst hxp
        obtain ⟨l', r1, r2⟩ := d.early x h' q1 q2 q3 q4 q5
        rw [r1] at hl; cases hl
        exact ⟨l', rfl, r2⟩
    refine ⟨d.size, d.clo, hpl, hpb, fun j h' hj => d.pa j h' (by omega), ?_, ?_, fun x h' h1 h2 h3 h4 => ?_, fun x h' h1 => d.early x h' (by omega), fun id h1 h2 => ?_, d.frr, d.df⟩
    · exact { d.ext with
        next := Nat.le_trans d.ext.next hmono
        none := fun id h1 h2 => by
          obtain ⟨q1, q2⟩ := d.ext.none id h1 h2
          exact ⟨q1, (hmem id (by omega)).trans q2⟩
        ro := fun id h1 => by
          obtain ⟨q1, q2⟩ := d.ext.ro id h1
          exact ⟨q1, (hmem id (by omega)).trans q2⟩ }
    · refine ⟨fun id l h1 h2 => ?_, d.sim.inj, d.sim.blk, fun id h1 h2 => by omega, fun id h1 => ?_, fun id h1 => ?_, d.sim.glob, fun id a h1 => ?_⟩
      · by_cases e : id = (st p).next
        · subst e
          obtain ⟨l', e1, e2⟩ := hlive _ h2
          cases e1; exact e2
        · rw [hmem id e]; exact d.sim.obj id l (by omega) h2
      · rw [hmem id (by omega)]; exact d.sim.high id (by omega)
      · rw [hmem id (fun e => by subst e; obtain ⟨_, e1, _⟩ := hlive _ h1; cases e1)]; exact d.sim.dead id h1
      · rw [hmem id (fun e => by subst e; obtain ⟨_, e1, _⟩ := hlive _ h1; cases e1)]; exact d.sim.sat id a h1
    · obtain ⟨q1, q2⟩ := d.un x h' h1 h2 h3 h4
      refine ⟨q1, fun hx => ?_⟩
      rcases Nat.lt_or_ge x p with h5 | h5
      · have h6 := D.alLt h1 h2 h3
        have h7 := D.mono (i := x + 1) (j := p) h5 (by omega)
        rw [hmem _ (by omega)]; exact q2 h5
      · have : x = p := by omega
        subst this; rfl
    · rcases d.rest id (by omega) h2 with h3 | ⟨x, h', q1, q2, q3, q4, q5, q6⟩
      · exact .inl h3
      · refine .inr ⟨x, h', ?_, q2, q3, q4, q5, q6⟩
        rcases Nat.lt_or_ge p x with h5 | h5
        · exact h5
        · have : x = p := by omega
          subst this; omega
end
end Go.HM
