import Derived.Test.YtdhcabbngddboaaGreatDoorHmY2
set_option linter.unusedVariables false
set_option linter.unusedSimpArgs false
namespace Go.HM

inductive ResOK (P : Program) (N : Nat) : ResultVar → HRes → Prop
  | t {t} : t < N → ResOK P N (.tmp t) (.t (Pt.ofNat t))
  | cell1 {a t d n} : a < N → P.underlying t = some d → isAggB d = false → ResOK P N (.cell a t) (.cell (Pt.ofNat a) false n)
  | cellN {a t d ti} : a < N → P.underlying t = some d → isAggB d = true → P.info? t = some ti → ResOK P N (.cell a t) (.cell (Pt.ofNat a) true ti.size)
inductive RessOK (P : Program) (N : Nat) : List ResultVar → List HRes → Prop
  | nil : RessOK P N [] []
  | cons {r h rs hs} : ResOK P N r h → RessOK P N rs hs → RessOK P N (r :: rs) (h :: hs)

def resOf (tmps : Array Value) : ResultVar → Sem Value
  | .tmp t => pure (tmps.getD t undef)
  | .cell a t => do loadVar t (← asAddr (tmps.getD a undef))

theorem res_run {P : Program} {G N B : Nat} {ρ : Rho} {s : M} {w : World} {fr : Fr} {tmps : Array Value} {r : ResultVar} {h : HRes} {v : Value} (hs : Sim G B ρ s w) (hf : FrR N ρ fr tmps) (hok : ResOK P N r h) (hv : resV fr s h = some v) :
    ∃ v', (resOf tmps r).run P w = .ok v' w ∧ VR ρ v v' := by
  cases hok with
  | t ht => cases hv; exact ⟨_, rfl, hf.2 _ ht⟩
  | cell1 ha hd hag =>
    have hp := hf.2 _ ha
    obtain ⟨b, v', h1, h2, h3⟩ := load1_rel hs hp hv
    exact ⟨v', by simp [resOf, h1, asAddr, run_loadVar1 hd hag h2], h3⟩
  | cellN ha hd hag hti =>
    have hp := hf.2 _ ha
    obtain ⟨b, l', h1, h2, h3, h4⟩ := loadAgg_rel hs hp hv
    exact ⟨_, by simp [resOf, h1, asAddr, run_loadVarN hd hag hti h2 h3], h4⟩

theorem ress_run {P : Program} {G N B : Nat} {ρ : Rho} {s : M} {w : World} {fr : Fr} {tmps : Array Value} (hs : Sim G B ρ s w) (hf : FrR N ρ fr tmps) : ∀ {rs : List ResultVar} {hs : List HRes} {vs : List Value}, RessOK P N rs hs → ress fr s hs = some vs →
    ∃ vs', (rs.mapM (resOf tmps)).run P w = .ok vs' w ∧ VRs ρ vs vs' := by
  intro rs
  induction rs with
  | nil => intro h vs hok hv; cases hok; simp only [ress] at hv; cases hv; exact ⟨[], rfl, .nil⟩
  | cons r rs ih =>
    intro h vs hok hv
    cases hok with
    | cons h1 h2 =>
      simp only [ress] at hv
      split at hv
      · rename_i v hv1
        split at hv
        · rename_i l hl
          cases hv
          obtain ⟨v', a1, a2⟩ := res_run hs hf h1 hv1
          obtain ⟨vs', b1, b2⟩ := ih h2 hl
          exact ⟨v' :: vs', by simp [List.mapM_cons, a1, b1], .cons a2 b2⟩
        · cases hv
      · cases hv

theorem results_run {P : Program} {G N B : Nat} {ρ : Rho} {s : M} {w : World} {fr : Fr} {tmps : Array Value} {fn : Func} {hr : List HRes} {vs : List Value} (hs : Sim G B ρ s w) (hf : FrR N ρ fr tmps) (hok : RessOK P N fn.results.toList hr) (hv : ress fr s hr = some vs) :
    ∃ v', (results fn tmps).run P w = .ok v' w ∧ VR ρ (tupleV vs) v' := by
  obtain ⟨vs', h1, h2⟩ := ress_run hs hf hok hv
  have hm : (fn.results.mapM (resOf tmps)).run P w = .ok ⟨vs'⟩ w := by
    rw [Array.mapM_eq_mapM_toList, Sem.run_map, h1]; rfl
  have hres : results fn tmps = (do let vs ← fn.results.mapM (resOf tmps); pure (if h : vs.size = 1 then vs[0] else .tuple vs)) := by
    unfold results resOf
    rfl
  rw [hres]
  simp only [Sem.run_bind, hm, Result.andThen_ok, Sem.run_pure]
  refine ⟨_, rfl, ?_⟩
  cases h2 with
  | nil => exact .tuple .nil
  | cons a b =>
    cases b with
    | nil => exact a
    | cons b c => exact .tuple (.cons a (.cons b c))

/-- a function that is put off: nothing comes back -/
structure PutOff (P : Program) (R G : Nat) (g nt : Nat) (h : HC) : Prop where
  ok : ∃ fn c, P.funcs[g]? = some fn ∧ fn.name ≠ "runtime.NumGoroutine" ∧ fn.ntmps = nt ∧ fn.results = #[] ∧ fn.body = some c ∧ CodeOK P R G nt c h

inductive BodyOK (P : Program) (R G N : Nat) : Code → HB → Prop
  | code {c h} : CodeOK P R G N c h → BodyOK P R G N c (.code h)
  | seq {a b a' b'} : CodeOK P R G N a a' → BodyOK P R G N b b' → BodyOK P R G N (.seq a b) (.seq a' b')
  | dfr {id ops hs od g nt h args ats xs b b'} : ops.size = hs.length + 1 → RegP P R G N ops 0 hs → ops[hs.length]? = some od → od.op = .defer { callee := .value (.func g), args := args, argTypes := ats } → od.guard = none → od.dst = none →
      cOpds G N args.toList = some xs → PutOff P R G g nt h → CodeOK P R G N b b' → BodyOK P R G N (.seq (.region id ops false) b) (.dfr hs nt h xs b')
  | chunk {id sz fi g g' t asg body ha hb} : ChunkFn P R G fi sz → cOpd G N g = some g' → CodeOK P R G N asg ha → CodeOK P R G N body hb → BodyOK P R G N (.block id (.rangeFunc g #[t] asg body)) (.chunk sz fi g' (Pt.ofNat t) ha hb)

structure FnOK (P : Program) (R G : Nat) (fn : Func) (h : HF) : Prop where
  nt : h.nt = fn.ntmps
  name : fn.name ≠ "runtime.NumGoroutine"
  body : ∃ c, fn.body = some c ∧ BodyOK P R G fn.ntmps c h.body
  res : RessOK P fn.ntmps fn.results.toList h.res

abbrev KS : KV := fun v s => some (v, s)
theorem retK_some {res : List HRes} {k : KV} {e : Ex} {fr : Fr} {s : M} {r : Value × M} (h : retK res k e fr s = some r) : (∀ id, e ≠ .exit id) ∧ ∃ vs, ress fr s res = some vs ∧ ∀ k2 : KV, retK res k2 e fr s = k2 (tupleV vs) s := by
  cases e with
  | exit id => cases h
  | normal =>
    cases hv : ress fr s res with
    | none => simp only [retK, hv] at h; cases h
    | some vs => exact ⟨(fun id h => (by cases h)), vs, rfl, fun k2 => by simp only [retK, hv]⟩
  | ret =>
    cases hv : ress fr s res with
    | none => simp only [retK, hv] at h; cases h
    | some vs => exact ⟨(fun id h => (by cases h)), vs, rfl, fun k2 => by simp only [retK, hv]⟩

section
variable {P : Program} {R G N : Nat} {call : CallF}
theorem evB_seq (a : HC) (b : HB) (kr : KE) : evB call (.seq a b) kr = evC call a (seqK (evB call b kr) kr) := rfl
theorem evB_code (c : HC) (kr : KE) : evB call (.code c) kr = evC call c kr := rfl
theorem evB_dfr (ops : List HR) (nt : Nat) (h : HC) (xs : List Opd) (b : HC) (kr : KE) : evB call (.dfr ops nt h xs b) kr = evR call (fun fr s => evC call b (dfrK call nt h (evs fr xs) kr) fr s) ops := rfl
theorem evB_chunk (sz fi : Nat) (g : Opd) (p : Pt) (a b : HC) (kr : KE) (fr : Fr) (s : M) : evB call (.chunk sz fi g p a b) kr fr s = chE sz fi (evC call a) (evC call b) p fr s (fun s' => kr .normal fr s') (ev fr g) := rfl

theorem chE_unif (hG : G ≤ R) (hc : CallOK P R G call) {asg body : Code} {ha hb : HC} (oka : CodeOK P R G N asg ha) (okb : CodeOK P R G N body hb) {sz fi : Nat} {p : Pt} {fr : Fr} {s : M} {k : M → Res} {v : Value} {r : Value × M}
    (h : chE sz fi (evC call ha) (evC call hb) p fr s k v = some r) : ∃ s', s.next ≤ s'.next ∧ ∀ k2, chE sz fi (evC call ha) (evC call hb) p fr s k2 v = k2 s' := by
  obtain ⟨a1, a2, hv, hsh⟩ := chE_some h
  obtain ⟨s', hm, hu⟩ := chL_unif hG hc oka okb _ _ _ _ _ ((hsh k).symm.trans h)
  exact ⟨s', hm, fun k2 => (hsh k2).trans (hu k2)⟩

theorem dfrK_some {nt : Nat} {h : HC} {args : List Value} {kr : KE} {e : Ex} {fr : Fr} {s : M} {r : Value × M} (hr : dfrK call nt h args kr e fr s = some r) :
    (∀ id, e ≠ .exit id) ∧ args.length ≤ nt ∧ evC call h (dfrE kr fr) (args0 0 args .lf) s = some r ∧ ∀ kr2, dfrK call nt h args kr2 e fr s = evC call h (dfrE kr2 fr) (args0 0 args .lf) s := by
  cases e with
  | exit id => cases hr
  | normal =>
    have hr' : (bif Nat.ble args.length nt then evC call h (dfrE kr fr) (args0 0 args .lf) s else none) = some r := hr
    cases hb : Nat.ble args.length nt with
    | false => rw [hb] at hr'; cases hr'
    | true => rw [hb] at hr'; exact ⟨(fun id h => (by cases h)), Nat.le_of_ble_eq_true hb, hr', fun kr2 => by show (bif Nat.ble args.length nt then _ else none) = _; rw [hb]; rfl⟩
  | ret =>
    have hr' : (bif Nat.ble args.length nt then evC call h (dfrE kr fr) (args0 0 args .lf) s else none) = some r := hr
    cases hb : Nat.ble args.length nt with
    | false => rw [hb] at hr'; cases hr'
    | true => rw [hb] at hr'; exact ⟨(fun id h => (by cases h)), Nat.le_of_ble_eq_true hb, hr', fun kr2 => by show (bif Nat.ble args.length nt then _ else none) = _; rw [hb]; rfl⟩
theorem dfrE_some {kr : KE} {fr fr' : Fr} {e : Ex} {s : M} {r : Value × M} (h : dfrE kr fr e fr' s = some r) : (∀ id, e ≠ .exit id) ∧ kr .ret fr s = some r ∧ ∀ kr2, dfrE kr2 fr e fr' s = kr2 .ret fr s := by
  cases e with
  | exit id => cases h
  | normal => exact ⟨(fun id h => (by cases h)), h, fun _ => rfl⟩
  | ret => exact ⟨(fun id h => (by cases h)), h, fun _ => rfl⟩

theorem evB_unif (hG : G ≤ R) (hc : CallOK P R G call) {res : List HRes} {c : Code} {b : HB} (hok : BodyOK P R G N c b) : ∀ (fr : Fr) (s : M) (k : KV) (r : Value × M), evB call b (retK res k) fr s = some r →
    ∃ v s', s.next ≤ s'.next ∧ ∀ k2, evB call b (retK res k2) fr s = k2 v s' := by
  induction hok with
  | code h =>
    intro fr s k r hr
    obtain ⟨e, fr', s', hm, hu⟩ := evC_unif hG hc h fr s (retK res k) r hr
    obtain ⟨_, vs, hv, hk⟩ := retK_some ((hu _).symm.trans hr)
    exact ⟨tupleV vs, s', hm, fun k2 => (hu (retK res k2)).trans (hk k2)⟩
  | seq h1 h2 ih =>
    rename_i a b a' b'
    intro fr s k r hr
    obtain ⟨e, fr', s', hm, hu⟩ := evC_unif hG hc h1 fr s _ r hr
    have hr2 : seqK (evB call b' (retK res k)) (retK res k) e fr' s' = some r := (hu _).symm.trans hr
    cases e with
    | normal =>
      obtain ⟨v, s2, hm2, hu2⟩ := ih fr' s' k r hr2
      exact ⟨v, s2, Nat.le_trans hm hm2, fun k2 => (hu (seqK (evB call b' (retK res k2)) (retK res k2))).trans (hu2 k2)⟩
    | exit id => cases hr2
    | ret =>
      obtain ⟨_, vs, hv, hk⟩ := retK_some (res := res) (k := k) (e := .ret) hr2
      exact ⟨tupleV vs, s', hm, fun k2 => (hu (seqK (evB call b' (retK res k2)) (retK res k2))).trans (hk k2)⟩
  | dfr g1 g2 g3 g4 g5 g6 g7 g8 g9 =>
    rename_i id ops hs od g nt h args ats xs b b'
    intro fr s k r hr
    obtain ⟨fn, cg, _, _, _, _, _, okg⟩ := g8.ok
    obtain ⟨fr1, s1, hm1, hu1⟩ := evR_unifP hG hc hs 0 g2 fr s _ r (show evR call _ hs fr s = some r from hr)
    have hr2 : evC call b' (dfrK call nt h (evs fr1 xs) (retK res k)) fr1 s1 = some r := (hu1 (fun fr s => evC call b' (dfrK call nt h (evs fr xs) (retK res k)) fr s)).symm.trans hr
    obtain ⟨e2, fr2, s2, hm2, hu2⟩ := evC_unif hG hc g9 fr1 s1 _ r hr2
    obtain ⟨_, _, hr3, hk3⟩ := dfrK_some ((hu2 _).symm.trans hr2)
    obtain ⟨e3, fr3, s3, hm3, hu3⟩ := evC_unif hG hc okg _ s2 _ r hr3
    obtain ⟨_, hr4, hk4⟩ := dfrE_some ((hu3 _).symm.trans hr3)
    obtain ⟨_, vs, hv, hk⟩ := retK_some hr4
    refine ⟨tupleV vs, s3, Nat.le_trans hm1 (Nat.le_trans hm2 hm3), fun k2 => ?_⟩
    refine (hu1 (fun fr s => evC call b' (dfrK call nt h (evs fr xs) (retK res k2)) fr s)).trans ?_
    refine (hu2 _).trans ?_
    refine (hk3 _).trans ?_
    refine (hu3 _).trans ?_
    exact (hk4 _).trans (hk k2)
  | chunk g1 g2 g3 g4 =>
    rename_i id sz fi g g' t asg body ha hb
    intro fr s k r hr
    obtain ⟨s', hm, hu⟩ := chE_unif hG hc g3 g4 (show chE sz fi (evC call ha) (evC call hb) (Pt.ofNat t) fr s (fun s' => retK res k .normal fr s') (ev fr g') = some r from hr)
    obtain ⟨_, vs, hv, hk⟩ := retK_some (show retK res k .normal fr s' = some r from (hu _).symm.trans hr)
    exact ⟨tupleV vs, s', hm, fun k2 => (hu (fun s' => retK res k2 .normal fr s')).trans (hk k2)⟩

/-- what is asked at a function's end -/
def PostC (G R B : Nat) (ρ0 : Rho) (s0 : M) (w0 : World) (v : Value) (s1 : M) : Ending → World → Prop := fun e w' => ∃ v' ρ', e = .returned v' ∧ VR ρ' v v' ∧ Ext R B ρ0 s0 w0 ρ' s1 w' ∧ Sim G B ρ' s1 w'

theorem leave0 {B : Nat} {ρ0 ρ : Rho} {s0 s : M} {w0 w : World} {fn : Func} {res : List HRes} (hres : RessOK P N fn.results.toList res) {e : Ex} {fr : Fr} {tmps : Array Value} {v : Value} {s1 : M} (hr : retK res KS e fr s = some (v, s1)) (he : Ext R B ρ0 s0 w0 ρ s w) (hs : Sim G B ρ s w) (hf : FrR N ρ fr tmps) :
    s1 = s ∧ LeavesInM (Wd none) 0 P fn tmps (PostC G R B ρ0 s0 w0 v s1) [] .returning w := by
  obtain ⟨_, vs, hv, hk⟩ := retK_some hr
  have := (hk KS).symm.trans hr
  simp only [KS, Option.some.injEq, Prod.mk.injEq] at this
  obtain ⟨e1, e2⟩ := this
  subst e2
  obtain ⟨v', r1, r2⟩ := results_run hs hf hres hv
  exact ⟨rfl, v', r1, v', ρ, rfl, e1 ▸ r2, he, hs⟩

theorem evB_sound (hG : G ≤ R) (hcall : CallOK P R G call) {fn : Func} {res : List HRes} (hres : RessOK P N fn.results.toList res) {c : Code} {b : HB} (hok : BodyOK P R G N c b) :
    ∀ (fr : Fr) (s : M) (v : Value) (s1 : M) (B : Nat) (ρ0 ρ : Rho) (s0 : M) (w0 : World) (a : Act) (w : World), evB call b (retK res KS) fr s = some (v, s1) → Sim G B ρ s w → FrR N ρ fr a.tmps → R ≤ s.next → s1.next ≤ B → a.defers = [] → Ext R B ρ0 s0 w0 ρ s w →
      (∀ id l, ρ0 id = some (.live l) → l.b < w0.heap.size) → c.wpIn (Wd none) 0 P (bodyPostM (Wd none) 0 P fn (PostC G R B ρ0 s0 w0 v s1)) a w := by
  induction hok with
  | code h =>
    intro fr s v s1 B ρ0 ρ s0 w0 a w hr hs hf hR hB hd he hb0
    refine evC_sound hG hcall h none (retK res KS) fr s (v, s1) B ρ a w _ hr hs hf hR (fun e fr' s' q => ?_) fun e fr' s' ρ' a' w' q1 q2 q3 q4 q5 => ?_
    · obtain ⟨_, vs, hv, hk⟩ := retK_some q
      have := (hk KS).symm.trans q
      simp only [KS, Option.some.injEq, Prod.mk.injEq] at this
      rw [this.2]; exact hB
    · obtain ⟨e1, hl⟩ := leave0 (R := R) hres q1 (he.trans q2) q3 q4
      obtain ⟨hne, _⟩ := retK_some q1
      cases e with
      | exit id => exact absurd rfl (hne id)
      | normal => show LeavesInM _ _ _ _ _ _ a'.defers _ _; rw [q5, hd]; exact hl
      | ret => show LeavesInM _ _ _ _ _ _ a'.defers _ _; rw [q5, hd]; exact hl
  | seq h1 h2 ih =>
    rename_i a₀ b₀ a' b'
    intro fr s v s1 B ρ0 ρ s0 w0 a w hr hs hf hR hB hd he hb0
    refine wpIn_seq (evC_sound hG hcall h1 none (seqK (evB call b' (retK res KS)) (retK res KS)) fr s (v, s1) B ρ a w _ hr hs hf hR (fun e fr' s' q => ?_) fun e fr' s' ρ' a1 w' q1 q2 q3 q4 q5 => ?_)
    · cases e with
      | exit id => cases q
      | normal =>
        obtain ⟨v2, s2, hm2, hu2⟩ := evB_unif hG hcall h2 fr' s' KS (v, s1) q
        have := (hu2 KS).symm.trans q
        simp only [KS, Option.some.injEq, Prod.mk.injEq] at this
        rw [← this.2] at hB; exact Nat.le_trans hm2 hB
      | ret =>
        obtain ⟨_, vs, hv, hk⟩ := retK_some (res := res) (e := .ret) q
        have := (hk KS).symm.trans q
        simp only [KS, Option.some.injEq, Prod.mk.injEq] at this
        rw [this.2]; exact hB
    · cases e with
      | exit id => cases q1
      | normal => exact ih fr' s' v s1 B ρ0 ρ' s0 w0 a1 w' q1 q3 q4 (Nat.le_trans hR q2.next) hB (q5.trans hd) (he.trans q2) hb0
      | ret =>
        obtain ⟨e1, hl⟩ := leave0 (R := R) (e := .ret) hres q1 (he.trans q2) q3 q4
        show LeavesInM _ _ _ _ _ _ a1.defers _ _
        rw [q5, hd]; exact hl
  | dfr g1 g2 g3 g4 g5 g6 g7 g8 g9 =>
    rename_i id ops hs od g nt h args ats xs b b'
    intro fr s v s1 B ρ0 ρ s0 w0 a w hr hsim hf hR hB hd he hb0
    obtain ⟨fg, cg, hfg, hng, hntg, hresg, hbg, okg⟩ := g8.ok
    have hr0 : evR call (fun fr s => evC call b' (dfrK call nt h (evs fr xs) (retK res KS)) fr s) hs fr s = some (v, s1) := hr
    -- where all ends
    have endB : ∀ fr1 s1', evC call b' (dfrK call nt h (evs fr1 xs) (retK res KS)) fr1 s1' = some (v, s1) → s1'.next ≤ B := by
      intro fr1 s1' q
      obtain ⟨e2, fr2, s2, hm2, hu2⟩ := evC_unif hG hcall g9 fr1 s1' _ _ q
      obtain ⟨_, _, hr3, hk3⟩ := dfrK_some ((hu2 _).symm.trans q)
      obtain ⟨e3, fr3, s3, hm3, hu3⟩ := evC_unif hG hcall okg _ s2 _ _ hr3
      obtain ⟨_, hr4, hk4⟩ := dfrE_some ((hu3 _).symm.trans hr3)
      obtain ⟨_, vs, hv, hk⟩ := retK_some hr4
      have := (hk KS).symm.trans hr4
      simp only [KS, Option.some.injEq, Prod.mk.injEq] at this
      rw [this.2] at hm3; omega
    refine wpIn_seq (wpIn_region ?_)
    rw [List.range_eq_range', g1, List.range'_append_1.symm]
    rw [show List.range' (0 + hs.length) 1 = [hs.length] by simp]
    refine evR_pre hG hcall hs 0 g2 fr s B ρ a w hr0 hsim hf hR endB fun fr1 s2 ρ1 a1 w1 p1 p2 p3 p4 p5 => ?_
    have hw10 : Region.wanted od (yielded ops a1.tmps) = true := by unfold Region.wanted; rw [g5]
    refine wpOps_intro g3 hw10 ⟨fun _ _ => trivial, ?_⟩
    have hxs := opds_rel p3 p4 g7
    have hdr : (Oper.semAt (Wd none).round a1.eval od).run P w1 = .ok (.defer { target := .fn (.func g) #[], args := args.map a1.eval }) w1 := by
      rw [show (Wd none).round = none from rfl, Oper.semAt_none]
      unfold execOp; rw [g4]
      simp [resolve, Deferred.ofValue, Act.eval]
    rw [hdr, Oper.uponIn_defer, g6]
    show Code.wpIn _ _ _ _ _ _ _
    refine evC_sound hG hcall g9 none _ fr1 s2 (v, s1) B ρ1 _ w1 _ p1 p3 p4 (Nat.le_trans hR p2.next) (fun e fr' s' q => ?_) fun e fr2 s3 ρ2 a2 w2 q1 q2 q3 q4 q5 => ?_
    · obtain ⟨_, _, hr3, hk3⟩ := dfrK_some q
      obtain ⟨e3, fr3, s3, hm3, hu3⟩ := evC_unif hG hcall okg _ s' _ _ hr3
      obtain ⟨_, hr4, hk4⟩ := dfrE_some ((hu3 _).symm.trans hr3)
      obtain ⟨_, vs, hv, hk⟩ := retK_some hr4
      have := (hk KS).symm.trans hr4
      simp only [KS, Option.some.injEq, Prod.mk.injEq] at this
      rw [this.2] at hm3; omega
    · obtain ⟨hne, hlen, hr3, _⟩ := dfrK_some q1
      have hd2 : a2.defers = [{ target := .fn (.func g) #[], args := args.map a1.eval }] := by rw [q5]; show _ :: a1.defers = _; rw [p5, hd]
      have hinv : (invoke (.fn (.func g) #[]) (args.map a1.eval)).run P w2 = .ok (.enter g (args.map a1.eval)) w2 := by
        have hbn : fg.body.isNone = false := by rw [hbg]; rfl
        simp only [invoke, callFunc, Sem.run_bind, run_program, Result.andThen_ok, hfg]
        simp [hng, hbn]
      have hargs : args.map a1.eval = (⟨args.toList.map a1.eval⟩ : Array Value) := by apply Array.ext'; simp
      have fin : LeavesInM (Wd none) 0 P fn a2.tmps (PostC G R B ρ0 s0 w0 v s1) a2.defers .returning w2 := by
        rw [hd2]
        refine ⟨fun h => (by cases h), .inr ⟨fun h => (by cases h), .func g, #[], g, _, rfl, hinv, fun _ _ => trivial, ?_⟩⟩
        rw [hargs]
        refine (callsDIn_of_wp (F := Wd none) (n := 0) (R := fun e w' => LeavesInM (Wd none) 0 P fn a2.tmps (PostC G R B ρ0 s0 w0 v s1) [] .returning w' ∧ ∃ x, e = .returned x) hfg hbg trivial ?_).mono ?_
        · rw [hntg]
          refine evC_sound hG hcall okg none _ _ s3 (v, s1) B ρ2 _ w2 _ hr3 q3 (args_rel (hxs.mono q2.le) hlen) (Nat.le_trans (Nat.le_trans hR p2.next) q2.next) (fun e fr' s' q => ?_) fun e fr' s' ρ3 a3 w3 t1 t2 t3 t4 t5 => ?_
          · obtain ⟨_, hr4, hk4⟩ := dfrE_some q
            obtain ⟨_, vs, hv, hk⟩ := retK_some hr4
            have := (hk KS).symm.trans hr4
            simp only [KS, Option.some.injEq, Prod.mk.injEq] at this
            rw [this.2]; exact hB
          · obtain ⟨hne3, hr4, _⟩ := dfrE_some t1
            obtain ⟨_, hl⟩ := leave0 (R := R) hres hr4 (((he.trans p2).trans q2).trans t2) t3 (q4.mono t2.le)
            have hd3 : a3.defers = [] := t5
            have hrr : (results fg a3.tmps).run P w3 = .ok (.tuple #[]) w3 := by simp [results, hresg]
            cases e with
            | exit id => exact absurd rfl (hne3 id)
            | normal => exact ⟨hd3, _, hrr, hl, _, rfl⟩
            | ret => exact ⟨hd3, _, hrr, hl, _, rfl⟩
        · rintro e u' w' ⟨rfl, hl, x, rfl⟩
          exact hl
      cases e with
      | exit id => exact absurd rfl (hne id)
      | normal => exact fin
      | ret => exact fin
  | chunk g1 g2 g3 g4 =>
    rename_i id sz fi g g' t asg body ha hb
    intro fr s v s1 B ρ0 ρ s0 w0 a w hr hs hf hR hB hd he hb0
    refine wpIn_block (chunk_sound hG hcall g1 g3 g4 g2 (show chE sz fi (evC call ha) (evC call hb) (Pt.ofNat t) fr s (fun s' => retK res KS .normal fr s') (ev fr g') = some (v, s1) from hr) hs hf hR (fun s' q => ?_) fun s' ρ' w' D q1 q2 q3 q4 q5 q6 => ?_)
    · obtain ⟨_, vs, hv, hk⟩ := retK_some q
      have := (hk KS).symm.trans q
      simp only [KS, Option.some.injEq, Prod.mk.injEq] at this
      rw [this.2]; exact hB
    · show LeavesInM (Wd none) 0 P fn a.tmps _ ({ target := .collected D, args := #[] } :: a.defers) .returning w'
      rw [hd]
      refine ⟨fun h => (by cases h), .inl ⟨D, w'.putObj D (.deferred none), rfl, run_takeDeferred q5, ?_⟩⟩
      exact (leave0 (R := R) hres q1 ((he.trans q2).put D _ (Nat.le_trans he.size q4) hb0) (q3.world (fun id lo hlo => World.putObj_heap_other (q6 id lo hlo)) (by simp)) (hf.mono q2.le)).2

/-- the run of a body, and what it told -/
theorem fn_sound (hG : G ≤ R) (hcall : CallOK P R G call) {g : Nat} {fn : Func} {h : HF} (hfn : P.funcs[g]? = some fn) (hok : FnOK P R G fn h) {args : List Value} (hlen : args.length ≤ h.nt) {s : M} {k : KV} {r : Value × M}
    (hr : evB call h.body (retK h.res k) (args0 0 args .lf) s = some r) :
    ∃ v s', (∀ k2, evB call h.body (retK h.res k2) (args0 0 args .lf) s = k2 v s') ∧ s.next ≤ s'.next ∧ Enters P g ∧ SimCall P R G g args s v s' := by
  obtain ⟨c, hb, hc⟩ := hok.body
  obtain ⟨v, s', hmono, hu⟩ := evB_unif hG hcall hc (args0 0 args .lf) s k r hr
  have hbs : fn.body.isSome = true := by rw [hb]; rfl
  refine ⟨v, s', hu, hmono, ⟨fn, hfn, hbs, hok.name⟩, fun hR B ρ w args' hs hB ha => ?_⟩
  have hnt := hok.nt
  exact callsIn_wide.1 (callsIn_of_wp_marks (F := Fence.wide) (n := 0) hfn hb trivial (evB_sound hG hcall hok.res hc (args0 0 args .lf) s v s' B ρ ρ s w _ w (hu KS) hs (args_rel ha (by omega)) hR hB rfl (Ext.refl _ _ _ _ _) hs.blk))
end

/-- what stands for a function -/
def FDOK (P : Program) (R G : Nat) (g : Nat) : FD → Prop
  | .code h => ∃ fn, P.funcs[g]? = some fn ∧ FnOK P R G fn h
  | .nat f => ∀ call, CallOK P R G call → ∀ args s k r, f call args s k = some r → ∃ v s', (∀ k2, f call args s k2 = k2 v s') ∧ s.next ≤ s'.next ∧ Enters P g ∧ SimCall P R G g args s v s'

theorem evF_ok {P : Program} {R G : Nat} (hG : G ≤ R) {fn : Nat → Option FD} (hfn : ∀ g d, fn g = some d → FDOK P R G g d) : ∀ n, CallOK P R G (evF fn n) := by
  intro n
  induction n with
  | zero => intro g args s k r h; cases h
  | succ n ih =>
    intro g args s k r h
    cases hg : fn g with
    | none =>
      have h' : Option.rec (motive := fun _ => Res) none (fun d => FD.rec (motive := fun _ => Res) (fun h => bif Nat.ble args.length h.nt then evB (evF fn n) h.body (retK h.res k) (args0 0 args .lf) s else none) (fun g => g (evF fn n) args s k) d) (fn g) = some r := h
      rw [hg] at h'; cases h'
    | some d =>
      have hd := hfn g d hg
      have hsh : ∀ k2, evF fn (n + 1) g args s k2 = FD.rec (motive := fun _ => Res) (fun h => bif Nat.ble args.length h.nt then evB (evF fn n) h.body (retK h.res k2) (args0 0 args .lf) s else none) (fun g => g (evF fn n) args s k2) d := by
        intro k2
        show Option.rec (motive := fun _ => Res) none (fun d => FD.rec (motive := fun _ => Res) (fun h => bif Nat.ble args.length h.nt then evB (evF fn n) h.body (retK h.res k2) (args0 0 args .lf) s else none) (fun g => g (evF fn n) args s k2) d) (fn g) = _
        rw [hg]
      rw [hsh] at h
      cases d with
      | code hf =>
        obtain ⟨fn', h1, h2⟩ := hd
        simp only at h
        cases hb : Nat.ble args.length hf.nt with
        | false => rw [hb] at h; cases h
        | true =>
          rw [hb] at h
          obtain ⟨v, s', q1, qm, q2, q3⟩ := fn_sound hG ih h1 h2 (Nat.le_of_ble_eq_true hb) h
          exact ⟨v, s', fun k2 => by rw [hsh]; simp only; rw [hb]; exact q1 k2, qm, q2, q3⟩
      | nat f =>
        obtain ⟨v, s', q1, qm, q2, q3⟩ := hd (evF fn n) ih args s k r h
        exact ⟨v, s', fun k2 => by rw [hsh]; exact q1 k2, qm, q2, q3⟩
end Go.HM
