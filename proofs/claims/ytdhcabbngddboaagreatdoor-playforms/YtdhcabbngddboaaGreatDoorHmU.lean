import Derived.Test.YtdhcabbngddboaaGreatDoorHmT
set_option linter.unusedVariables false
set_option linter.unusedSimpArgs false
namespace Go.HM
section
variable {P : Program} {R G N : Nat} {call : CallF} {ops : Array Oper} {hs : List HR} {ps : List (Nat × Nat)} {st : Nat → M} {frs : Nat → Fr} {vs : Nat → Value} {ran : Nat → Bool} {B : Nat}
variable {D : Draw P R G N call ops hs ps st frs vs ran B} {ρ0 : Rho} {a0 : Act} {w0 : World}

theorem HOp.al_eff {h : HOp} (ha : h.isAl = true) : h.isEff = false := by
  cases h <;> simp [HOp.isAl, HOp.isEff] at ha ⊢

theorem getD_ft {L : Array Bool} {i : Nat} (h : L.getD i true = false) : i < L.size ∧ L.getD i false = false := by
  rcases Nat.lt_or_ge i L.size with h1 | h1
  · simp [Array.getD_eq_getD_getElem?, h1] at h ⊢; exact h
  · simp [Array.getD_eq_getD_getElem?, Array.getElem?_eq_none h1] at h

theorem frS_reads (D : Draw P R G N call ops hs ps st frs vs ran B) {L : Array Bool} (hclo : ∀ i j, Bef ops i j → L.getD j false = true → L.getD i false = true) {i : Nat} {h : HR} (hi : hs[i]? = some h) (hL : L.getD i false = false) (hpre : ∀ j, Bef ops j i → L.getD j false = true) {p : Pt} (hp : h.reads p) :
    (frS hs vs (frs 0) L hs.length).get p = (frs i).get p := by
  have hil : i < hs.length := (List.getElem?_eq_some_iff.1 hi).1
  have h1 : ∀ m, m ≤ i → (frS hs vs (frs 0) L m).get p = (frs m).get p := by
    intro m
    induction m with
    | zero => intro _; rfl
    | succ m ih =>
      intro hm
      have hgm : hs[m]? = some hs[m] := List.getElem?_eq_getElem (by omega)
      rw [(D.step m _ hgm).frE]
      simp only [frS, hgm]
      rw [putD_get]
      by_cases e : hs[m].dst = some p
      · have := hpre m (D.ok.conf m i _ _ hgm hi (by omega) (.inl ⟨p, e, .inl hp⟩))
        rw [if_pos this, if_pos e, putD_get, if_pos e]
      · rw [if_neg e, ← ih (by omega)]
        split
        · rw [putD_get, if_neg e]
        · rfl
  have h2 : ∀ m, i ≤ m → m ≤ hs.length → (frS hs vs (frs 0) L m).get p = (frS hs vs (frs 0) L i).get p := by
    intro m
    induction m with
    | zero => intro h _; have : i = 0 := by omega
              subst this; rfl
    | succ m ih =>
      intro him hm
      rcases Nat.lt_or_ge i (m + 1) with h3 | h3
      · have hgm : hs[m]? = some hs[m] := List.getElem?_eq_getElem (by omega)
        simp only [frS, hgm]
        split
        · rename_i hLm
          rw [putD_get]
          by_cases e : hs[m].dst = some p
          · have hne : m ≠ i := fun e => by subst e; rw [hL] at hLm; cases hLm
            have := hclo i m (D.ok.conf i m _ _ hi hgm (by omega) (.inr ⟨p, e, hp⟩)) hLm
            rw [hL] at this; cases this
          · rw [if_neg e]; exact ih (by omega) (by omega)
        · exact ih (by omega) (by omega)
      · have : i = m + 1 := by omega
        subst this; rfl
  rw [h2 _ (by omega) (Nat.le_refl _), h1 _ (Nat.le_refl _)]

theorem frS_set (D : Draw P R G N call ops hs ps st frs vs ran B) {L : Array Bool} (hclo : ∀ i j, Bef ops i j → L.getD j false = true → L.getD i false = true) {i : Nat} {h : HR} (hi : hs[i]? = some h) (hL : L.getD i true = false) (p : Pt) :
    (frS hs vs (frs 0) (L.setIfInBounds i true) hs.length).get p = (putD h.dst (vs i) (frS hs vs (frs 0) L hs.length)).get p := by
  obtain ⟨hsz, hLf⟩ := getD_ft hL
  have hil : i < hs.length := (List.getElem?_eq_some_iff.1 hi).1
  have h1 : ∀ m, m ≤ i → frS hs vs (frs 0) (L.setIfInBounds i true) m = frS hs vs (frs 0) L m := by
    intro m
    induction m with
    | zero => intro _; rfl
    | succ m ih =>
      intro hm
      simp only [frS, getD_set_ne false (show i ≠ m by omega), ih (by omega)]
  have h2 : ∀ m, i + 1 ≤ m → m ≤ hs.length → ∀ p, (frS hs vs (frs 0) (L.setIfInBounds i true) m).get p = (putD h.dst (vs i) (frS hs vs (frs 0) L m)).get p := by
    intro m
    induction m with
    | zero => intro h _; omega
    | succ m ih =>
      intro him hm p
      rcases Nat.lt_or_ge i m with h3 | h3
      · have hgm : hs[m]? = some hs[m] := List.getElem?_eq_getElem (by omega)
        simp only [frS, hgm, getD_set_ne false (show i ≠ m by omega)]
        split
        · rename_i hLm
          have hnc : ∀ q, hs[m].dst = some q → h.dst ≠ some q := by
            intro q e e2
            have := hclo i m (D.ok.conf i m _ _ hi hgm h3 (.inl ⟨q, e2, .inr e⟩)) hLm
            rw [hLf] at this; cases this
          rw [putD_get, putD_get, putD_get, ih (by omega) (by omega), putD_get]
          by_cases e : hs[m].dst = some p
          · rw [if_pos e, if_neg (hnc p e), if_pos e]
          · rw [if_neg e, if_neg e]
        · exact ih (by omega) (by omega) p
      · have : i = m := by omega
        subst this
        simp only [frS, hi, hLf]
        rw [h1 i (Nat.le_refl _)]
        have : (L.setIfInBounds i true).getD i false = true := by simp [hsz]
        rw [if_pos this]
        simp
  exact h2 _ (by omega) (Nat.le_refl _) p

/-- what goes without saying when one more is listed -/
theorem DI.base {L : Array Bool} {p : Nat} {ρ : Rho} {a : Act} {w : World} (d : DI D ρ0 a0 w0 L p ρ a w) {i : Nat} (hi : i ∈ Region.ready .any ops L) :
    ∃ o h, ops[i]? = some o ∧ hs[i]? = some h ∧ HROK P R G N ops o h ∧ L.getD i false = false ∧ i < L.size ∧ (∀ j, Bef ops j i → L.getD j false = true) ∧
      ((L.setIfInBounds i true).size = hs.length) ∧ (∀ x y, Bef ops x y → (L.setIfInBounds i true).getD y false = true → (L.setIfInBounds i true).getD x false = true) ∧
      (∀ (ρ' : Rho) (v' : Value), ρ.le ρ' → VR ρ' (vs i) v' → FrR N ρ' (frS hs vs (frs 0) (L.setIfInBounds i true) hs.length) (a.put o.dst v').tmps) ∧
      (∀ v', (a.put o.dst v').defers = a0.defers) ∧
      Region.wanted o (yielded ops a.tmps) = ran i ∧
      (evs (frS hs vs (frs 0) L hs.length) h.op.opds = evs (frs i) h.op.opds) := by
  obtain ⟨h0, o, ho, hall⟩ := mem_ready.1 hi
  obtain ⟨hsz, hLf⟩ := getD_ft h0
  obtain ⟨h, hh, hrok⟩ := D.get i o ho
  have hpre : ∀ j, Bef ops j i → L.getD j false = true := by
    intro j hj
    cases hj with
    | edge q1 q2 q3 => rw [ho] at q1; cases q1; exact hall _ q2 q3
    | step q0 q1 q2 q3 => rw [ho] at q1; cases q1; exact d.clo _ _ q0 (hall _ q2 q3)
  have hst := D.step i h hh
  refine ⟨o, h, ho, hh, hrok, hLf, hsz, hpre, by simp [d.size], fun x y hb hy => ?_, fun ρ' v' hle hv => ?_, fun v' => ?_, ?_, evs_congr fun p hp => frS_reads D d.clo hh hLf hpre (.inr hp)⟩
  · by_cases e : y = i
    · subst e; exact getD_set_true (hpre x hb)
    · rw [getD_set_ne false (Ne.symm e)] at hy
      exact getD_set_true (d.clo x y hb hy)
  · have := (d.frr.mono hle).put (a := a) (d := o.dst) hv
    rw [← hrok.dst] at this
    exact ⟨this.1, fun t ht => by rw [frS_set D d.clo hh h0]; exact this.2 t ht⟩
  · rw [← d.df]; cases o.dst <;> rfl
  · rw [wants_rel hrok d.frr, hst.ranE]
    exact wants_congr fun p b e => frS_reads D d.clo hh hLf hpre (.inl ⟨b, e⟩)

theorem set_false {L : Array Bool} {i x : Nat} (hsz : i < L.size) (h : (L.setIfInBounds i true).getD x false = false) : x ≠ i ∧ L.getD x false = false := by
  by_cases e : x = i
  · subst e; simp [hsz] at h
  · rw [getD_set_ne false (Ne.symm e)] at h; exact ⟨e, h⟩
theorem set_true {L : Array Bool} {i x : Nat} (h : (L.setIfInBounds i true).getD x false = true) : x = i ∨ L.getD x false = true := by
  by_cases e : x = i
  · exact .inl e
  · rw [getD_set_ne false (Ne.symm e)] at h; exact .inr h

/-- one that leaves memory alone -/
theorem DI.still {L : Array Bool} {p : Nat} {ρ : Rho} {a : Act} {w : World} (d : DI D ρ0 a0 w0 L p ρ a w) {i : Nat} {h : HR} {o : Oper} {v' : Value} (hsz : i < L.size) (hLf : L.getD i false = false) (hh : hs[i]? = some h) (he : (h.op.isEff && ran i) = false) (ha : (h.op.isAl && ran i) = false)
    (q1 : (L.setIfInBounds i true).size = hs.length) (q2 : ∀ x y, Bef ops x y → (L.setIfInBounds i true).getD y false = true → (L.setIfInBounds i true).getD x false = true)
    (q3 : FrR N ρ (frS hs vs (frs 0) (L.setIfInBounds i true) hs.length) (a.put o.dst v').tmps) (q4 : (a.put o.dst v').defers = a0.defers) : DI D ρ0 a0 w0 (L.setIfInBounds i true) p ρ (a.put o.dst v') w := by
  refine ⟨q1, q2, d.pn, fun j h' h1 h2 h3 => getD_set_true (d.pb j h' h1 h2 h3), fun j h' h1 h2 h3 => ?_, d.ext, d.sim, fun x h' h1 h2 h3 h4 => d.un x h' h1 h2 h3 (set_false hsz h4).2, fun x h' h1 h2 h3 h4 h5 => ?_, fun id h1 h2 => ?_, q3, q4⟩
  · have := d.pa j h' h1 h2 h3
    rw [getD_set_ne false (fun e => by subst e; rw [hh] at h2; cases h2; rw [he] at h3; cases h3)]; exact this
  · rcases set_true h5 with e | e
    · subst e; rw [hh] at h2; cases h2; rw [h3, h4] at ha; cases ha
    · exact d.early x h' h1 h2 h3 h4 e
  · refine (d.rest id h1 h2).imp (fun h => h) ?_
    rintro ⟨x, h', r1, r2, r3, r4, r5, r6⟩
    exact ⟨x, h', r1, r2, r3, r4, getD_set_true r5, r6⟩

theorem DI.fwdTo {L : Array Bool} {ρ : Rho} {a : Act} {w : World} {i : Nat} (hi : i ≤ hs.length) (hne : ∀ (j : Nat) (h : HR), j < i → hs[j]? = some h → (h.op.isEff && ran j) = true → L.getD j false = true) :
    ∀ (n p : Nat), p + n = i → DI D ρ0 a0 w0 L p ρ a w → DI D ρ0 a0 w0 L i ρ a w := by
  intro n
  induction n with
  | zero => intro p hp d; have : p = i := by omega
            subst this; exact d
  | succ n ih =>
    intro p hp d
    have hgp : hs[p]? = some hs[p] := List.getElem?_eq_getElem (by omega)
    have he : (hs[p].op.isEff && ran p) = false := by
      cases he : (hs[p].op.isEff && ran p) with
      | false => rfl
      | true =>
        have h1 := hne p _ (by omega) hgp he
        rw [d.pa p _ (Nat.le_refl _) hgp he] at h1; cases h1
    exact ih (p + 1) (by omega) (d.fwd hgp he)

/-- a block is made -/
theorem DI.al {L : Array Bool} {p : Nat} {ρ : Rho} {a : Act} {w w' : World} (d : DI D ρ0 a0 w0 L p ρ a w) {i tot : Nat} {h : HR} {o : Oper} {v' : Value} {ho : HO} {c : Obj} (hsz : i < L.size) (hLf : L.getD i false = false) (hh : hs[i]? = some h) (ha : h.op.isAl = true) (hr : ran i = true)
    (q1 : (L.setIfInBounds i true).size = hs.length) (q2 : ∀ x y, Bef ops x y → (L.setIfInBounds i true).getD y false = true → (L.setIfInBounds i true).getD x false = true)
    (q3 : FrR N (upd ρ (st i).next (.live ⟨w.heap.size, 0, tot⟩)) (frS hs vs (frs 0) (L.setIfInBounds i true) hs.length) (a.put o.dst v').tmps) (q4 : (a.put o.dst v').defers = a0.defers)
    (hst : st (i + 1) = alloc (st i) ho) (hw : AllocW w c w') (hor : OR (upd ρ (st i).next (.live ⟨w.heap.size, 0, tot⟩)) ⟨w.heap.size, 0, tot⟩ ho (some c)) :
    DI D ρ0 a0 w0 (L.setIfInBounds i true) p (upd ρ (st i).next (.live ⟨w.heap.size, 0, tot⟩)) (a.put o.dst v') w' := by
  have hil : i < hs.length := (List.getElem?_eq_some_iff.1 hh).1
  have he : h.op.isEff = false := HOp.al_eff ha
  obtain ⟨hn, hun⟩ := d.un i h hh ha hr hLf
  have hle : ρ.le (upd ρ (st i).next (.live ⟨w.heap.size, 0, tot⟩)) := upd_le_new hn
  have h0i : (st 0).next ≤ (st i).next := D.mono (Nat.zero_le _) (by omega)
  have hi1 := D.alLt hh ha hr
  have hiB : (st i).next < B := by
    have := D.mono (i := i + 1) (j := hs.length) hil (Nat.le_refl _)
    have := D.hB
    omega
  have hR0 := D.R0
  have hnew : (st (i + 1)).mem.get (st i).next = ho := by
    rw [hst]; show ((st i).mem.set (st i).next ho).get _ = _
    rw [TM.get_set, if_pos rfl]
  have hold : ∀ k, k < w.heap.size → w'.heap[k]? = w.heap[k]? := by
    intro k hk
    rw [hw.heap, Array.getElem?_push, if_neg (by omega)]
  have hdiff : ∀ (x : Nat) (h' : HR), hs[x]? = some h' → h'.op.isAl = true → ran x = true → x ≠ i → (st x).next ≠ (st i).next := by
    intro x h' h1 h2 h3 hne
    have hxl : x < hs.length := (List.getElem?_eq_some_iff.1 h1).1
    have hx1 := D.alLt h1 h2 h3
    rcases Nat.lt_or_ge x i with h4 | h4
    · have := D.mono (i := x + 1) (j := i) h4 (by omega); omega
    · have := D.mono (i := i + 1) (j := x) (by omega) (by omega); omega
  have hheap : w'.heap[w.heap.size]? = some c := by rw [hw.heap]; simp
  refine ⟨q1, q2, d.pn, fun j h' h1 h2 h3 => getD_set_true (d.pb j h' h1 h2 h3), fun j h' h1 h2 h3 => ?_, ?_, ?_, fun x h' h1 h2 h3 h4 => ?_, fun x h' h1 h2 h3 h4 h5 => ?_, fun id h1 h2 => ?_, q3, q4⟩
  · have := d.pa j h' h1 h2 h3
    rw [getD_set_ne false (fun e => by subst e; rw [hh] at h2; cases h2; rw [he] at h3; cases h3)]; exact this
  · exact { 
      le := Rho.le_trans d.ext.le hle
      next := d.ext.next
      none := fun id h1 h2 => by
        obtain ⟨r1, r2⟩ := d.ext.none id h1 h2
        exact ⟨by rw [upd_other (by omega)]; exact r1, r2⟩
      ro := fun id h1 => by
        obtain ⟨r1, r2⟩ := d.ext.ro id h1
        exact ⟨by rw [upd_other (by omega)]; exact r1, r2⟩
      high := fun id h1 => by
        obtain ⟨r1, r2⟩ := d.ext.high id h1
        exact ⟨by rw [upd_other (by omega)]; exact r1, fun l hl => by rw [hold _ (d.sim.blk id l (r1.trans hl))]; exact r2 l hl⟩
      os := hw.os.trans d.ext.os
      tape := hw.tape.trans d.ext.tape
      output := hw.output.trans d.ext.output
      size := Nat.le_trans d.ext.size (by rw [hw.heap]; simp)
      keep := fun b hb hk => by rw [hold _ (Nat.lt_of_lt_of_le hb d.ext.size)]; exact d.ext.keep b hb hk
      own := fun id l hl => by
        by_cases e : id = (st i).next
        · subst e; rw [upd_same] at hl; cases hl; exact .inl d.ext.size
        · rw [upd_other e] at hl; exact d.ext.own id l hl }
  · refine ⟨fun id l h1 h2 => ?_, fun x y l l' h1 h2 h3 => ?_, fun id l h1 => ?_, fun id h1 h2 => by omega, d.sim.high, fun id h1 => ?_, fun g hg => ?_, fun id a h1 => ?_⟩
    · by_cases e : id = (st i).next
      · subst e
        rw [upd_same] at h2; cases h2
        have hip : i < p := by
          rcases Nat.lt_or_ge i p with h3 | h3
          · exact h3
          · have := D.mono (i := p) (j := i) h3 (by omega); omega
        rw [hun hip, hnew, hheap]; exact hor
      · rw [upd_other e] at h2
        rw [hold _ (d.sim.blk _ _ h2)]
        exact (d.sim.obj id l h1 h2).mono hle
    · by_cases ei : x = (st i).next
      · subst ei; rw [upd_same] at h1; cases h1
        by_cases ej : y = (st i).next
        · exact ej.symm
        · rw [upd_other ej] at h2
          have := d.sim.blk _ _ h2
          simp only at h3
          omega
      · rw [upd_other ei] at h1
        by_cases ej : y = (st i).next
        · subst ej; rw [upd_same] at h2; cases h2
          have := d.sim.blk _ _ h1
          simp only at h3
          omega
        · rw [upd_other ej] at h2
          exact d.sim.inj _ _ _ _ h1 h2 h3
    · rw [hw.heap, Array.size_push]
      by_cases e : id = (st i).next
      · subst e; rw [upd_same] at h1; cases h1; exact Nat.lt_succ_self _
      · rw [upd_other e] at h1; have := d.sim.blk _ _ h1; omega
    · by_cases e : id = (st i).next
      · subst e; rw [upd_same] at h1; cases h1
      · rw [upd_other e] at h1; exact d.sim.dead id h1
    · obtain ⟨t, ht⟩ := d.sim.glob g hg
      exact ⟨t, by rw [upd_other (fun e => by subst e; rw [hn] at ht; cases ht)]; exact ht⟩
    · by_cases e : id = (st i).next
      · subst e; rw [upd_same] at h1; cases h1
      · rw [upd_other e] at h1; exact d.sim.sat id a h1
  · obtain ⟨e1, e2⟩ := set_false hsz h4
    obtain ⟨r1, r2⟩ := d.un x h' h1 h2 h3 e2
    exact ⟨by rw [upd_other (hdiff x h' h1 h2 h3 e1)]; exact r1, r2⟩
  · by_cases e : x = i
    · subst e
      exact ⟨_, upd_same _ _ _, by rw [hnew, hheap]; exact hor⟩
    · rcases set_true h5 with e' | e'
      · exact absurd e' e
      · obtain ⟨l, r1, r2⟩ := d.early x h' h1 h2 h3 h4 e'
        exact ⟨l, by rw [upd_other (hdiff x h' h2 h3 h4 e)]; exact r1, by rw [hold _ (d.sim.blk _ _ r1)]; exact r2.mono hle⟩
  · by_cases e : id = (st i).next
    · refine .inr ⟨i, h, ?_, hh, ha, hr, by simp [hsz], e⟩
      rcases Nat.lt_or_ge i p with h3 | h3
      · have := D.mono (i := i + 1) (j := p) h3 d.pn; omega
      · exact h3
    · rw [upd_other e]
      refine (d.rest id h1 h2).imp (fun h => h) ?_
      rintro ⟨x, h', r1, r2, r3, r4, r5, r6⟩
      exact ⟨x, h', r1, r2, r3, r4, getD_set_true r5, r6⟩

/-- an effect -/
theorem DI.eff {L : Array Bool} {ρ : Rho} {a : Act} {w : World} {i : Nat} (d : DI D ρ0 a0 w0 L i ρ a w) {h : HR} {o : Oper} (hsz : i < L.size) (hLf : L.getD i false = false) (hh : hs[i]? = some h) (he : h.op.isEff = true) (hr : ran i = true)
    (q1 : (L.setIfInBounds i true).size = hs.length) (q2 : ∀ x y, Bef ops x y → (L.setIfInBounds i true).getD y false = true → (L.setIfInBounds i true).getD x false = true) :
    Sim G (st (i + 1)).next ρ (st i) w ∧ ∀ (v' : Value) (ρ' : Rho) (w' : World), Ext R (st (i + 1)).next ρ (st i) w ρ' (st (i + 1)) w' → Sim G (st (i + 1)).next ρ' (st (i + 1)) w' →
      FrR N ρ' (frS hs vs (frs 0) (L.setIfInBounds i true) hs.length) (a.put o.dst v').tmps → (a.put o.dst v').defers = a0.defers → DI D ρ0 a0 w0 (L.setIfInBounds i true) (i + 1) ρ' (a.put o.dst v') w' := by
  have hil : i < hs.length := (List.getElem?_eq_some_iff.1 hh).1
  have hal : ∀ h', hs[i]? = some h' → h'.op.isAl = true → False := fun h' h1 h2 => by
    rw [hh] at h1; cases h1
    rw [HOp.al_eff h2] at he; cases he
  have hmi := (D.step i h hh).mono
  have hBi : (st (i + 1)).next ≤ B := Nat.le_trans (D.mono hil (Nat.le_refl _)) D.hB
  have hnone : ∀ id, (st i).next ≤ id → id < (st (i + 1)).next → ρ id = none := by
    intro id h1 h2
    rcases d.rest id h1 (by omega) with h3 | ⟨x, h', r1, r2, r3, r4, r5, r6⟩
    · exact h3
    · have hne : x ≠ i := fun e => by subst e; exact hal h' r2 r3
      have hxl : x < hs.length := (List.getElem?_eq_some_iff.1 r2).1
      have := D.mono (i := i + 1) (j := x) (by omega) (by omega)
      omega
  refine ⟨d.sim.raise hmi hnone, fun v' ρ' w' hx hsim q3 q4 => ?_⟩
  refine ⟨q1, q2, hil, fun j h' h1 h2 h3 => ?_, fun j h' h1 h2 h3 => ?_, d.ext.trans (hx.up hBi), hsim, fun x h' h1 h2 h3 h4 => ?_, fun x h' h1 h2 h3 h4 h5 => ?_, fun id h1 h2 => ?_, q3, q4⟩
  · by_cases e : j = i
    · subst e; simp [hsz]
    · exact getD_set_true (d.pb j h' (by omega) h2 h3)
  · rw [getD_set_ne false (by omega)]; exact d.pa j h' (by omega) h2 h3
  · obtain ⟨e1, e2⟩ := set_false hsz h4
    have hxl : x < hs.length := (List.getElem?_eq_some_iff.1 h1).1
    obtain ⟨r1, r2⟩ := d.un x h' h1 h2 h3 e2
    have hx1 := D.alLt h1 h2 h3
    rcases Nat.lt_or_ge x i with h5 | h5
    · have := D.mono (i := x + 1) (j := i) h5 (by omega)
      obtain ⟨s1, s2⟩ := hx.none (st x).next r1 (by omega)
      exact ⟨s1, fun _ => s2.trans (r2 h5)⟩
    · have := D.mono (i := i + 1) (j := x) (by omega) (by omega)
      exact ⟨(hx.high _ this).1.trans r1, fun h6 => by omega⟩
  · rcases set_true h5 with e | e
    · omega
    · have hxl : x < hs.length := (List.getElem?_eq_some_iff.1 h2).1
      obtain ⟨l, r1, r2⟩ := d.early x h' (by omega) h2 h3 h4 e
      have := D.mono (i := i + 1) (j := x) (by omega) (by omega)
      obtain ⟨s1, s2⟩ := hx.high _ this
      exact ⟨l, s1.trans r1, by rw [s2 l r1]; exact r2.mono hx.le⟩
  · obtain ⟨s1, _⟩ := hx.high id h1
    rcases d.rest id (by omega) h2 with h3 | ⟨x, h', r1, r2, r3, r4, r5, r6⟩
    · exact .inl (s1.trans h3)
    · refine .inr ⟨x, h', ?_, r2, r3, r4, getD_set_true r5, r6⟩
      rcases Nat.lt_or_ge i x with h5 | h5
      · exact h5
      · have : x = i := by omega
        subst this; exact (hal h' r2 r3).elim
end
end Go.HM
