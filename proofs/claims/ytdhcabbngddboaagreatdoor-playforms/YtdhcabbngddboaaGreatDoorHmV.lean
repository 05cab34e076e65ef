import Derived.Test.YtdhcabbngddboaaGreatDoorHmU
set_option linter.unusedVariables false
set_option linter.unusedSimpArgs false
namespace Go.HM

theorem beqIntE {a b : Int} (h : beqInt a b = true) : a = b := by
  cases a <;> cases b <;> simp only [beqInt] at h
  · rw [Nat.eq_of_beq_eq_true h]
  · cases h
  · cases h
  · rw [Nat.eq_of_beq_eq_true h]
theorem beqAddr_eq {a b : Option Addr} (h : beqAddr a b = true) : a = b := by
  cases a with
  | none => cases b with | none => rfl | some b => cases h
  | some a =>
    cases b with
    | none => cases h
    | some b =>
      obtain ⟨a1, a2, a3⟩ := a
      obtain ⟨b1, b2, b3⟩ := b
      simp only [beqAddr, Bool.and_eq_true] at h
      obtain ⟨⟨⟨h1, h2⟩, h3⟩, h4⟩ := h
      have := Nat.eq_of_beq_eq_true h1
      have := Nat.eq_of_beq_eq_true h2
      cases a3 <;> cases h3
      cases b3 <;> cases h4
      simp_all
theorem beqBytesE : ∀ {a b : List UInt8}, beqBytes a b = true → a = b := by
  intro a
  induction a with
  | nil => intro b h; cases b with | nil => rfl | cons x y => cases h
  | cons x a ih =>
    intro b h
    cases b with
    | nil => cases h
    | cons y b =>
      simp only [beqBytes, Bool.and_eq_true] at h
      rw [ih h.2, UInt8.toNat_inj.1 (Nat.eq_of_beq_eq_true h.1)]
theorem beqK_eq {a b : IntKind} (h : beqK a b = true) : a = b := by
  have := Nat.eq_of_beq_eq_true h
  revert this
  cases a <;> cases b <;> first | (intro _; rfl) | (intro h; cases h)
theorem bytes_ext {a b : ByteArray} (h : a.data.toList = b.data.toList) : a = b := by
  cases a; cases b; congr 1; exact Array.toList_inj.1 h

mutual
theorem beqV_eq : ∀ (n : Nat) (a b : Value), beqV n a b = true → a = b
  | 0, a, b, h => by simp [beqV] at h
  | n + 1, a, b, h => by
    cases a <;> cases b <;> first | (simp only [beqV, Bool.false_eq_true] at h; done) | skip
    case bool.bool => simp only [beqV, beq_iff_eq] at h; rw [h]
    case int.int => simp only [beqV, Bool.and_eq_true] at h; rw [beqK_eq h.1, beqIntE h.2]
    case string.string => simp only [beqV] at h; rw [bytes_ext (beqBytesE h)]
    case pointer.pointer => simp only [beqV] at h; rw [beqAddr_eq h]
    case slice.slice => simp only [beqV, Bool.and_eq_true] at h; rw [beqAddr_eq h.1.1, Nat.eq_of_beq_eq_true h.1.2, Nat.eq_of_beq_eq_true h.2]
    case map.map a b =>
      cases a <;> cases b <;> simp only [beqV, Bool.false_eq_true] at h
      · rfl
      · rw [Nat.eq_of_beq_eq_true h]
    case complex.complex k a b j c d =>
      cases k <;> cases j <;> simp only [beqV, Bool.false_eq_true, Bool.and_eq_true] at h
      · rw [Nat.eq_of_beq_eq_true h.1, Nat.eq_of_beq_eq_true h.2]
      · rw [Nat.eq_of_beq_eq_true h.1, Nat.eq_of_beq_eq_true h.2]
    case nilFunc.nilFunc => rfl
    case nilIface.nilIface => rfl
    case iface.iface => simp only [beqV, Bool.and_eq_true] at h; rw [Nat.eq_of_beq_eq_true h.1, beqV_eq n _ _ h.2]
    case agg.agg => simp only [beqV] at h; rw [Array.toList_inj.1 (beqVs_eq n _ _ h)]
    case tuple.tuple => simp only [beqV] at h; rw [Array.toList_inj.1 (beqVs_eq n _ _ h)]
    case func.func f a b g c d =>
      cases f <;> cases g <;> simp only [beqV, Bool.false_eq_true] at h
      simp only [Bool.and_eq_true] at h; rw [Nat.eq_of_beq_eq_true h.1.1, Array.toList_inj.1 (beqVs_eq n _ _ h.1.2), Array.toList_inj.1 (beqVs_eq n _ _ h.2)]
theorem beqVs_eq : ∀ (n : Nat) (a b : List Value), beqVs n a b = true → a = b
  | n, [], [], h => rfl
  | n, [], _ :: _, h => by simp [beqVs] at h
  | n, _ :: _, [], h => by simp [beqVs] at h
  | 0, _ :: _, _ :: _, h => by simp [beqVs] at h
  | n + 1, a :: x, b :: y, h => by simp only [beqVs, Bool.and_eq_true] at h; rw [beqV_eq n a b h.1, beqVs_eq n x y h.2]
end

section
variable {P : Program} {R G N : Nat} {call : CallF} {ops : Array Oper} {hs : List HR} {ps : List (Nat × Nat)} {st : Nat → M} {frs : Nat → Fr} {vs : Nat → Value} {ran : Nat → Bool} {B : Nat}
variable {D : Draw P R G N call ops hs ps st frs vs ran B} {ρ0 : Rho} {a0 : Act} {w0 : World}

/-- memory stands behind an effect that ran, or where it began -/
def PE (hs : List HR) (ran : Nat → Bool) (p : Nat) : Prop := ∀ q, p = q + 1 → ∃ h, hs[q]? = some h ∧ (h.op.isEff && ran q) = true

theorem DI.upTo {L : Array Bool} {ρ : Rho} {a : Act} {w : World} {i : Nat} (hi : i ≤ hs.length) :
    ∀ (n p : Nat), p + n = i → DI D ρ0 a0 w0 L p ρ a w → ∃ q, q ≤ i ∧ DI D ρ0 a0 w0 L q ρ a w ∧ (q = i ∨ (q < i ∧ ∃ h, hs[q]? = some h ∧ (h.op.isEff && ran q) = true)) := by
  intro n
  induction n with
  | zero => intro p hp d; have : p = i := by omega
            subst this; exact ⟨p, Nat.le_refl _, d, .inl rfl⟩
  | succ n ih =>
    intro p hp d
    have hgp : hs[p]? = some hs[p] := List.getElem?_eq_getElem (by omega)
    cases he : (hs[p].op.isEff && ran p) with
    | false => exact ih (p + 1) (by omega) (d.fwd hgp he)
    | true => exact ⟨p, by omega, d, .inr ⟨by omega, _, hgp, he⟩⟩

theorem DI.stepOf {L : Array Bool} {p : Nat} {ρ : Rho} {a : Act} {w : World} (d : DI D ρ0 a0 w0 L p ρ a w) (pe : PE hs ran p) {i : Nat} (hi : i ∈ Region.ready .any ops L) {rd : Option Nat} {Q : Exit → Act → World → Prop} :
    wpOpIn (Wd rd) 0 P ops Q i (fun a' w' => ∃ p' ρ', DI D ρ0 a0 w0 (L.setIfInBounds i true) p' ρ' a' w' ∧ PE hs ran p') a w := by
  obtain ⟨o, h, ho, hh, hrok, hLf, hsz, hpre, q1, q2, q3, q4, hw, hev⟩ := d.base hi
  have hil : i < hs.length := (List.getElem?_eq_some_iff.1 hh).1
  have hst := D.step i h hh
  unfold wpOpIn
  rw [ho]
  simp only [hw]
  cases hran : ran i with
  | false =>
    simp only [Bool.false_eq_true, if_false]
    refine ⟨fun _ _ => trivial, p, ρ, d.still hsz hLf hh (by rw [hran]; simp) (by rw [hran]; simp) q1 q2 (q3 ρ undef ρ.le_refl ?_) (q4 undef), pe⟩
    rw [(hst.no hran).1]; exact VRundef ρ
  | true =>
    simp only [if_true]
    obtain ⟨hm, hu⟩ := hst.yes hran
    have hdo : doOp call (frS hs vs (frs 0) L hs.length) (st i) (fun v s => some (v, s)) h.op = some (vs i, st (i + 1)) := by
      rw [doOp_congr hev]; exact hu _
    have hR : R ≤ (st i).next := Nat.le_trans D.R0 (D.mono (Nat.zero_le _) (by omega))
    cases hE : h.op.isEff with
    | true =>
      obtain ⟨v, s', hk, _, _, htold⟩ := doOp_told D.hG D.hcall hrok.op hdo
      rw [Option.some.injEq, Prod.mk.injEq] at hk
      obtain ⟨e1, e2⟩ := hk
      subst e1
      have hpi : p ≤ i := by
        rcases Nat.lt_or_ge i p with h1 | h1
        · have := d.pb i h h1 hh (by rw [hE, hran]; rfl)
          rw [hLf] at this; cases this
        · exact h1
      have d' := DI.fwdTo (D := D) (i := i) (L := L) (by omega) (fun j h' h1 h2 h3 => hpre j (D.ok.eff j i h' h h2 hh h1 (by simp only [Bool.and_eq_true] at h3; exact h3.1) hE)) (i - p) p (by omega) d
      obtain ⟨s1, s2⟩ := d'.eff (o := o) hsz hLf hh hE hran q1 q2
      refine htold (st (i + 1)).next ρ w a s1 d.frr hR (by rw [e2]; exact Nat.le_refl _) rd _ _ fun v' ρ' w' r1 r2 r3 => ?_
      rw [e2] at r2 r3
      exact ⟨i + 1, ρ', s2 v' ρ' w' r2 r3 (q3 ρ' v' r2.le r1) (q4 v'), fun q e => ⟨h, by rw [show q = i by omega]; exact hh, by rw [show q = i by omega, hE, hran]; rfl⟩⟩
    | false =>
      have fin : ∀ v', (h.op.isAl = false) → VR ρ (vs i) v' → ∃ p' ρ', DI D ρ0 a0 w0 (L.setIfInBounds i true) p' ρ' (a.put o.dst v') w ∧ PE hs ran p' := fun v' hna hv =>
        ⟨p, ρ, d.still hsz hLf hh (by rw [hE]; rfl) (by rw [hna]; rfl) q1 q2 (q3 ρ v' ρ.le_refl hv) (q4 v'), pe⟩
      rcases hrok.op with hbad | ⟨⟨hx, hok⟩, hd⟩
      · rw [hbad] at hdo; cases hdo
      cases hop : h.op with
      | mv x =>
        rw [hop] at hdo hx hok
        have h3 : some (ev (frS hs vs (frs 0) L hs.length) x, st i) = some (vs i, st (i + 1)) := hdo
        rw [Option.some.injEq, Prod.mk.injEq] at h3
        obtain ⟨v', r1, r2⟩ := hok ρ w a.eval _ (vs i) (opds_rel d.sim d.frr hx) (by rw [← h3.1]; rfl)
        exact wp_value hd r1 (fin v' (by rw [hop]; rfl) r2)
      | p1 f x =>
        rw [hop] at hdo hx hok
        obtain ⟨v, hf, h3⟩ := kO_some (x := f (ev (frS hs vs (frs 0) L hs.length) x)) hdo
        rw [Option.some.injEq, Prod.mk.injEq] at h3
        obtain ⟨v', r1, r2⟩ := hok ρ w a.eval _ (vs i) (opds_rel d.sim d.frr hx) (by rw [← h3.1]; exact hf)
        exact wp_value hd r1 (fin v' (by rw [hop]; rfl) r2)
      | p2 f x y =>
        rw [hop] at hdo hx hok
        obtain ⟨v, hf, h3⟩ := kO_some (x := f (ev (frS hs vs (frs 0) L hs.length) x) (ev (frS hs vs (frs 0) L hs.length) y)) hdo
        rw [Option.some.injEq, Prod.mk.injEq] at h3
        obtain ⟨v', r1, r2⟩ := hok ρ w a.eval _ (vs i) (opds_rel d.sim d.frr hx) (by rw [← h3.1]; exact hf)
        exact wp_value hd r1 (fin v' (by rw [hop]; rfl) r2)
      | pn f xs =>
        rw [hop] at hdo hx hok
        obtain ⟨v, hf, h3⟩ := kO_some (x := f (evs (frS hs vs (frs 0) L hs.length) xs)) hdo
        rw [Option.some.injEq, Prod.mk.injEq] at h3
        obtain ⟨v', r1, r2⟩ := hok ρ w a.eval _ (vs i) (opds_rel d.sim d.frr hx) (by rw [← h3.1]; exact hf)
        exact wp_value hd r1 (fin v' (by rw [hop]; rfl) r2)
      | rd f xs =>
        have hrd : h.op.isRd = true := by rw [hop]; rfl
        have key : ∃ q ρq, DI D ρ0 a0 w0 L q ρq a w ∧ ρq = ρ ∧ f (evs (frs i) xs) (st q) = some (vs i) := by
          have hchk : ∀ (e : Nat) (he : HR), hs[e]? = some he → (he.op.isEff && ran e) = true → (i, e) ∈ ps → f (evs (frs i) xs) (bif Nat.blt i e then st (e + 1) else st e) = some (vs i) := by
            intro e he h1 h2 h3
            simp only [Bool.and_eq_true] at h2
            have := D.pairs i e h he h3 hh h1 hran h2.2
            rw [hop] at this
            have h4 : (match f (evs (frs i) xs) (bif Nat.blt i e then st (e + 1) else st e) with | some v => beqV 1000 v (vs i) | none => false) = true := this
            split at h4
            · rename_i v hv; rw [hv, beqV_eq _ _ _ h4]
            · cases h4
          rcases Nat.lt_or_ge i p with h1 | h1
          · obtain ⟨q, rfl⟩ : ∃ q, p = q + 1 := ⟨p - 1, by omega⟩
            obtain ⟨he, r1, r2⟩ := pe q rfl
            have hne : i ≠ q := fun e => by subst e; rw [hh] at r1; cases r1; rw [hE] at r2; cases r2
            have hin : (i, q) ∈ ps := by
              rcases D.ok.rde i q h he hh r1 hrd (by simp only [Bool.and_eq_true] at r2; exact r2.1) with h3 | h3 | h3
              · have := d.clo i q h3 (d.pb q he (Nat.lt_succ_self _) r1 r2)
                rw [hLf] at this; cases this
              · have := D.ok.fwd _ _ h3; omega
              · exact h3
            have := hchk q he r1 r2 hin
            rw [show Nat.blt i q = true from Nat.ble_eq_true_of_le (show i + 1 ≤ q by omega)] at this
            exact ⟨q + 1, ρ, d, rfl, this⟩
          · obtain ⟨q, hqi, d', hq⟩ := DI.upTo (D := D) (i := i) (by omega) (i - p) p (by omega) d
            rcases hq with hq | ⟨hq, he, r1, r2⟩
            · subst hq
              refine ⟨q, ρ, d', rfl, ?_⟩
              have h2 := hu fun v s => some (v, s)
              rw [hop] at h2
              obtain ⟨v, hf, h3⟩ := kO_some (x := f (evs (frs q) xs) (st q)) h2
              rw [Option.some.injEq, Prod.mk.injEq] at h3
              rw [hf, h3.1]
            · have hin : (i, q) ∈ ps := by
                rcases D.ok.rde i q h he hh r1 hrd (by simp only [Bool.and_eq_true] at r2; exact r2.1) with h3 | h3 | h3
                · have := D.ok.fwd _ _ h3; omega
                · have := hpre q h3
                  rw [d'.pa q he (Nat.le_refl _) r1 r2] at this; cases this
                · exact h3
              have := hchk q he r1 r2 hin
              rw [show Nat.blt i q = false from by
                cases hb : Nat.blt i q with
                | false => rfl
                | true => have := Nat.le_of_ble_eq_true (show Nat.ble (i + 1) q = true from hb); omega] at this
              exact ⟨q, ρ, d', rfl, this⟩
        obtain ⟨q, ρq, dq, e, hf⟩ := key
        subst e
        rw [hop] at hx hok hev
        obtain ⟨v', r1, r2⟩ := hok G (st q).next ρq (st q) w a.eval _ (vs i) dq.sim (opds_rel dq.sim d.frr hx) (by rw [hev]; exact hf)
        exact wp_value hd r1 (fin v' (by rw [hop]; rfl) r2)
      | al f xs =>
        obtain ⟨ob, mk, hf, hv, hst'⟩ := hst.al hran hop
        have hal : h.op.isAl = true := by rw [hop]; rfl
        rw [hop] at hx hok hev
        obtain ⟨c, w', v', tot, r1, r2, r3⟩ := hok ρ w a.eval _ ob mk (opds_rel d.sim d.frr hx) (by rw [hev]; exact hf)
        obtain ⟨hn, _⟩ := d.un i h hh hal hran hLf
        have hle : ρ.le (upd ρ (st i).next (.live ⟨w.heap.size, 0, tot⟩)) := upd_le_new hn
        obtain ⟨s1, s2⟩ := r3 (st i).next _ hle (upd_same _ _ _)
        exact wp_value hd r1 ⟨p, _, d.al hsz hLf hh hal hran q1 q2 (q3 _ v' hle (by rw [hv]; exact s2)) (q4 v') hst' r2 s1, pe⟩
      | ef f xs => rw [hop] at hE; cases hE
      | call f xs => rw [hop] at hE; cases hE
      | inv g x xs => rw [hop] at hE; cases hE
      | bad => rw [hop] at hdo; cases hdo

/-- how many are yet to be listed -/
theorem countP_lt {α : Type} {p q : α → Bool} : ∀ {l : List α} {x : α}, (∀ y, q y = true → p y = true) → x ∈ l → p x = true → q x = false → l.countP q < l.countP p := by
  intro l
  induction l with
  | nil => intro x _ h; cases h
  | cons y l ih =>
    intro x hpq hx hp hq
    have hle : l.countP q ≤ l.countP p := List.countP_mono_left fun z _ => hpq z
    rw [List.countP_cons, List.countP_cons]
    rcases List.mem_cons.1 hx with e | e
    · subst e; simp only [hp, hq]; simp; omega
    · have := ih hpq e hp hq
      have h2 := hpq y
      cases hqy : q y <;> cases hpy : p y <;> simp_all <;> omega

theorem DI.any {rd : Option Nat} {Q : Exit → Act → World → Prop} (hk : ∀ ρ a w, DI D ρ0 a0 w0 (Array.replicate hs.length true) hs.length ρ a w → Q .normal a w) :
    ∀ (fuel : Nat) (L : Array Bool) (p : Nat) (ρ : Rho) (a : Act) (w : World), (List.range hs.length).countP (fun j => !L.getD j true) ≤ fuel → DI D ρ0 a0 w0 L p ρ a w → PE hs ran p → wpAnyIn (Wd rd) 0 P .any ops Q fuel L a w := by
  have hend : ∀ (L : Array Bool) (p : Nat) (ρ : Rho) (a : Act) (w : World), Region.ready .any ops L = [] → DI D ρ0 a0 w0 L p ρ a w → Q .normal a w := by
    intro L p ρ a w hr d
    have hall : ∀ j, j < hs.length → L.getD j false = true := by
      intro j
      induction j using Nat.strongRecOn with
      | ind j ih =>
        intro hj
        cases hL : L.getD j true with
        | true => simpa [Array.getD_eq_getD_getElem?, d.size, hj] using hL
        | false =>
          have hjo : j < ops.size := by rw [← D.len]; exact hj
          have hoj : ops[j]? = some ops[j] := Array.getElem?_eq_getElem hjo
          have : j ∈ Region.ready .any ops L := mem_ready.2 ⟨hL, _, hoj, fun e he hb => ih e.on (D.ok.fwd _ _ (.edge hoj he hb)) (by have := D.ok.fwd _ _ (.edge hoj he hb); omega)⟩
          rw [hr] at this; cases this
    have hLe : L = Array.replicate hs.length true := by
      apply Array.ext
      · simp [d.size]
      · intro j h1 h2
        have := hall j (by rw [d.size] at h1; exact h1)
        simp only [Array.getD_eq_getD_getElem?, Array.getElem?_eq_getElem h1, Option.getD_some] at this
        simp [this]
    subst hLe
    exact hk ρ a w (DI.fwdTo (Nat.le_refl _) (fun j h hj _ _ => hall j hj) (hs.length - p) p (by have := d.pn; omega) d)
  intro fuel
  induction fuel with
  | zero =>
    intro L p ρ a w hc d pe
    have hr : Region.ready .any ops L = [] := by
      cases hr : Region.ready .any ops L with
      | nil => rfl
      | cons i l =>
        have hi : i ∈ Region.ready .any ops L := by rw [hr]; exact List.mem_cons_self
        obtain ⟨h0, o, ho, _⟩ := mem_ready.1 hi
        have hlt : i < hs.length := by rw [D.len]; exact (Array.getElem?_eq_some_iff.1 ho).1
        have : 0 < (List.range hs.length).countP (fun j => !L.getD j true) := List.countP_pos_iff.2 ⟨i, List.mem_range.2 hlt, by rw [h0]; rfl⟩
        omega
    exact ⟨hr, hend L p ρ a w hr d⟩
  | succ fuel ih =>
    intro L p ρ a w hc d pe
    refine ⟨fun hr => hend L p ρ a w hr d, fun i hi => wpOpIn_mono (fun a' w' => ?_) (d.stepOf pe hi)⟩
    rintro ⟨p', ρ', d', pe'⟩
    refine ih _ p' ρ' a' w' ?_ d' pe'
    obtain ⟨h0, o, ho, _⟩ := mem_ready.1 hi
    have hlt : i < hs.length := by rw [D.len]; exact (Array.getElem?_eq_some_iff.1 ho).1
    obtain ⟨hsz, _⟩ := getD_ft h0
    have : (List.range hs.length).countP (fun j => !(L.setIfInBounds i true).getD j true) < (List.range hs.length).countP (fun j => !L.getD j true) := by
      refine countP_lt (x := i) (fun y hy => ?_) (List.mem_range.2 hlt) (by rw [h0]; rfl) (by simp [hsz])
      by_cases e : y = i
      · subst e; simp [hsz] at hy
      · rw [getD_set_ne true (Ne.symm e)] at hy; exact hy
    omega
end

theorem draws_sound {P : Program} {R G N : Nat} (hG : G ≤ R) (hmix : P.follows .mixedOrders = true) {id : Nat} {ops : Array Oper} {hs : List HR} {ps : List (Nat × Nat)} (hreg : RegOK P R G N ops 0 hs) (hd : DrawOK ops hs ps) : CodeOK P R G N (.region id ops true) (.draws hs ps) := by
  refine .draws hreg fun rd call k fr s r B ρ a w Q hcall hev hsim hfr hR hB hk => ?_
  obtain ⟨st, frs, vs, ran, q1, q2, q3, q4⟩ := evD_trace hG hcall hs 0 hreg [] fr s _ r hev
  obtain ⟨g1, g2⟩ := hreg.get
  simp only [Nat.zero_add, List.nil_append] at q3 q4 g1 g2
  have hlen : hs.length = ops.size := by omega
  cases hp : pairsOk hs ((List.range' 0 hs.length).map (fun j => (⟨ran j, frs j, st j, vs j, st (j + 1)⟩ : En))) ps with
  | false => rw [hp] at q4; cases q4
  | true =>
    rw [hp] at q4
    have hk' : k (frs hs.length) (st hs.length) = some r := q4
    have hBn := hB _ _ hk'
    have hgettr : ∀ (j : Nat) (h : HR), hs[j]? = some h → ((List.range' 0 hs.length).map (fun j => (⟨ran j, frs j, st j, vs j, st (j + 1)⟩ : En)))[j]? = some ⟨ran j, frs j, st j, vs j, st (j + 1)⟩ := by
      intro j h hj
      have hlt : j < hs.length := (List.getElem?_eq_some_iff.1 hj).1
      simp [List.getElem?_range' (by omega : j < hs.length)]
    have D : Draw P R G N call ops hs ps st frs vs ran B := {
      hG := hG, hcall := hcall, len := hlen, get := g2, ok := hd, step := q3, R0 := by rw [q1]; exact hR, hB := hBn
      pairs := fun i j hi hj hin h1 h2 hri hrj => by
        have := List.all_eq_true.1 hp _ hin
        unfold pairOk at this
        simp only [h1, hgettr i hi h1, hgettr j hj h2, hri, hrj, Bool.and_self, cond_true] at this
        rw [hri]; exact this }
    refine wpIn_region_any hmix ?_
    have hcong : Sim G B ρ s { w with drawn := w.drawn + 1 } := ⟨hsim.obj, hsim.inj, hsim.blk, hsim.fresh, hsim.high, hsim.dead, hsim.glob, hsim.sat⟩
    have hlow : Sim G s.next ρ s { w with drawn := w.drawn + 1 } := by
      have hsB : s.next ≤ B := by
        have := D.mono (i := 0) (j := hs.length) (Nat.zero_le _) (Nat.le_refl _)
        rw [q1] at this; omega
      exact ⟨fun i l h1 h2 => hcong.obj i l (by omega) h2, hcong.inj, hcong.blk, fun i h1 h2 => by omega, fun i h1 => hcong.high i (.inr (by omega)), hcong.dead, hcong.glob, hcong.sat⟩
    have hsB : s.next ≤ B := by
      have := D.mono (i := 0) (j := hs.length) (Nat.zero_le _) (Nat.le_refl _)
      rw [q1] at this; omega
    rw [← hlen]
    have hrep : ∀ j, (Array.replicate hs.length false).getD j false = false := fun j => by
      simp only [Array.getD_eq_getD_getElem?, Array.getElem?_replicate]; split <;> rfl
    have hfr0 : ∀ m, frS hs vs (frs 0) (Array.replicate hs.length false) m = frs 0 := by
      intro m
      induction m with
      | zero => rfl
      | succ m ih => simp only [frS, hrep m, ih]; simp
    have hfrN : ∀ m, m ≤ hs.length → frS hs vs (frs 0) (Array.replicate hs.length true) m = frs m := by
      intro m
      induction m with
      | zero => intro _; rfl
      | succ m ih =>
        intro hm
        have hgm : hs[m]? = some hs[m] := List.getElem?_eq_getElem (by omega)
        have : (Array.replicate hs.length true).getD m false = true := by simp [Array.getD_eq_getD_getElem?, Array.getElem?_replicate, show m < hs.length by omega]
        simp only [frS, this, hgm, if_true]
        rw [ih (by omega), (D.step m _ hgm).frE]
    refine DI.any (D := D) (ρ0 := ρ) (a0 := a) (w0 := w) (fun ρ' a' w' d => ?_) hs.length _ 0 ρ a _ ?_ ?_ (fun q e => by omega)
    · have hend : Sim G B ρ' (st hs.length) w' := d.sim.raise (by have := d.ext.next; omega) fun id h1 h2 => by
        rcases d.rest id h1 h2 with h3 | ⟨x, h, r1, r2, _⟩
        · exact h3
        · have := (List.getElem?_eq_some_iff.1 r2).1; omega
      have hext := d.ext
      rw [q1] at hext
      refine hk _ _ ρ' a' w' hk' hext hend ?_ d.df
      have := d.frr
      rwa [hfrN _ (Nat.le_refl _)] at this
    · refine Nat.le_trans List.countP_le_length (by simp)
    · refine ⟨by simp, fun i j _ h => (by rw [hrep] at h; cases h), Nat.zero_le _, fun j h hj => (by omega), fun j h _ _ _ => hrep j, ?_, (by rw [q1]; exact hlow), fun x h h1 h2 h3 h4 => ?_, fun x h _ h1 _ _ h2 => (by rw [hrep] at h2; cases h2), fun id h1 h2 => .inl (hcong.fresh id (by rw [q1] at h1; exact h1) h2), (by rw [hfr0, q2]; exact hfr), rfl⟩
      · rw [q1]
        exact ⟨ρ.le_refl, Nat.le_refl _, fun _ h _ => ⟨h, rfl⟩, fun _ _ => ⟨rfl, rfl⟩, fun _ _ => ⟨rfl, fun _ _ => rfl⟩, rfl, rfl, rfl, Nat.le_refl _, fun _ _ _ => rfl, fun id l h => .inr ⟨id, l, h, rfl, fun _ => rfl⟩⟩
      · refine ⟨hcong.fresh _ ?_ ?_, fun h => by omega⟩
        · have := D.mono (i := 0) (j := x) (Nat.zero_le _) (by have := (List.getElem?_eq_some_iff.1 h1).1; omega)
          rw [q1] at this; exact this
        · have := D.alLt h1 h2 h3
          have := D.mono (i := x + 1) (j := hs.length) (by have := (List.getElem?_eq_some_iff.1 h1).1; omega) (Nat.le_refl _)
          omega
end Go.HM
