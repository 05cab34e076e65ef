import Derived.Test.YtdhcabbngddboaaGreatDoorHmY
import Derived.Test.YtdhcabbngddboaaGreatDoorHmArgs
set_option linter.unusedVariables false
set_option linter.unusedSimpArgs false
namespace Go.HM

/-- the iterator that slices.Chunk hands back -/
def ChunkFn (P : Program) (R G fi sz : Nat) : Prop :=
  ∃ (fn : Func) (R0 R1 R2 R3 : Code) (id4 : Nat) (ops4 : Array Oper) (o10 : Oper) (ats : Array TypeId),
    P.funcs[fi]? = some fn ∧ fn.name ≠ "runtime.NumGoroutine" ∧ fn.ntmps = 31 ∧ fn.results = #[] ∧
    fn.body = some (.seq R0 (.block 0 (.loop (.seq R1 (.seq (.block 1 (.seq R3 (.seq (.region id4 ops4 false) (.cond (.tmp 30) .ret .skip)))) R2))))) ∧
    CodeOK P R G 31 R0 c0 ∧ CodeOK P R G 31 R1 c1 ∧ CodeOK P R G 31 R2 c2 ∧ CodeOK P R G 31 R3 (c3 sz) ∧ ops4.size = 12 ∧ RegP P R G 31 ops4 0 (c4 sz) ∧
    ops4[10]? = some o10 ∧ o10.op = .call { callee := .value (.tmp 19), args := #[.tmp 28], argTypes := ats } ∧ o10.guard = none ∧ o10.dst = some 29 ∧ RegP P R G 31 ops4 11 c5

/-- what holds of the world while the pieces go by -/
structure Inv (G R B : Nat) (ρ0 : Rho) (s0 : M) (w0 : World) (l D : Nat) (lp : Loop) (s : M) (ρ : Rho) (W : World) : Prop where
  ext : Ext R B ρ0 s0 w0 ρ s W
  sim : Sim G B ρ s W
  hl : W.heap[l]? = some (.loop lp)
  hD : W.heap[D]? = some (.deferred (some []))
  ofl : ∀ id lo, ρ id = some (.live lo) → lo.b ≠ l ∧ lo.b ≠ D

theorem Inv.step {G R B : Nat} {ρ0 ρ ρ' : Rho} {s0 s s' : M} {w0 W W' : World} {l D : Nat} {lp : Loop} (h : Inv G R B ρ0 s0 w0 l D lp s ρ W) (he : Ext R B ρ s W ρ' s' W') (hs : Sim G B ρ' s' W') : Inv G R B ρ0 s0 w0 l D lp s' ρ' W' := by
  have hll : l < W.heap.size := (Array.getElem?_eq_some_iff.1 h.hl).1
  have hDD : D < W.heap.size := (Array.getElem?_eq_some_iff.1 h.hD).1
  refine ⟨h.ext.trans he, hs, ?_, ?_, fun id lo hlo => ?_⟩
  · rw [he.keep l hll (fun id lo hlo e => absurd e (h.ofl id lo hlo).1)]; exact h.hl
  · rw [he.keep D hDD (fun id lo hlo e => absurd e (h.ofl id lo hlo).2)]; exact h.hD
  · rcases he.own id lo hlo with h1 | ⟨id', l', h1, h2, _⟩
    · omega
    · rw [← h2]; exact h.ofl id' l' h1
theorem Inv.put {G R B : Nat} {ρ0 ρ : Rho} {s0 s : M} {w0 W : World} {l D : Nat} {lp lp' : Loop} (h : Inv G R B ρ0 s0 w0 l D lp s ρ W) (hb : ∀ id l, ρ0 id = some (.live l) → l.b < w0.heap.size) (hwl : w0.heap.size ≤ l) (hDl : D ≠ l) : Inv G R B ρ0 s0 w0 l D lp' s ρ (W.putObj l (.loop lp')) := by
  have hll : l < W.heap.size := (Array.getElem?_eq_some_iff.1 h.hl).1
  refine ⟨h.ext.put l _ hwl hb, h.sim.world (fun id lo hlo => World.putObj_heap_other (h.ofl id lo hlo).1) (by simp), World.putObj_heap_same hll, (World.putObj_heap_other hDl).trans h.hD, h.ofl⟩

theorem FrR.slot {N : Nat} {ρ : Rho} {fr : Fr} {tmps : Array Value} (h : FrR N ρ fr tmps) {t : Nat} (ht : t < N) {v : Value} (hv : fr.get (Pt.ofNat t) = v) : VR ρ v (tmps.getD t undef) := hv ▸ h.2 t ht

section
variable {P : Program} {R G N : Nat} {call : CallF}

theorem chNext_some {a2 i : Value} {go : Value → M → Res} {e : Ex} {fr : Fr} {s : M} {r : Value × M} (h : chNext a2 i go e fr s = some r) : e = .normal ∧ ∃ n i', load1 s a2 = some n ∧ bAdd i n = some i' ∧ go i' s = some r := by
  cases e with
  | normal =>
    obtain ⟨n, h1, h2⟩ := kO_some (show kO _ (load1 s a2) = some r from h)
    obtain ⟨i', h3, h4⟩ := kO_some h2
    exact ⟨rfl, n, i', h1, h3, h4⟩
  | exit id => cases h
  | ret => cases h

/-- what is told does not hang on what follows -/
theorem chL_unif (hG : G ≤ R) (hc : CallOK P R G call) {asg body : Code} {ha hb : HC} (oka : CodeOK P R G N asg ha) (okb : CodeOK P R G N body hb) {sz : Nat} {a1 a2 : Value} {p : Pt} {fr : Fr} :
    ∀ (n : Nat) (i : Value) (s : M) (k : M → Res) (r : Value × M), chL sz a1 a2 (evC call ha) (evC call hb) p fr k n i s = some r → ∃ s', s.next ≤ s'.next ∧ ∀ k2, chL sz a1 a2 (evC call ha) (evC call hb) p fr k2 n i s = k2 s' := by
  intro n
  induction n with
  | zero => intro i s k r h; cases h
  | succ n ih =>
    intro i s k r h
    have hsh : ∀ k2, chL sz a1 a2 (evC call ha) (evC call hb) p fr k2 (n + 1) i s = kO (fun l => chB sz a2 (evC call ha) (evC call hb) p fr s l i (chL sz a1 a2 (evC call ha) (evC call hb) p fr k2 n) k2 (chTest l i)) (load1 s a1) := fun _ => rfl
    rw [hsh] at h
    obtain ⟨v, h1, h2⟩ := kO_some h
    simp only [h1, kO_s] at hsh
    cases ht : chTest v i with
    | none => rw [ht] at h2; cases h2
    | some b =>
      rw [ht] at h2
      cases b with
      | false => exact ⟨s, Nat.le_refl _, fun k2 => by rw [hsh, ht]; rfl⟩
      | true =>
        obtain ⟨m, h3, h4⟩ := kO_some (show kO _ (load1 s a2) = some r from h2)
        obtain ⟨c, h5, h6⟩ := kO_some h4
        obtain ⟨e, fr1, s1, m1, u1⟩ := evC_unif hG hc oka _ _ _ _ h6
        have q1 : seqK (evC call hb (chNext a2 i (chL sz a1 a2 (evC call ha) (evC call hb) p fr k n))) (chNext a2 i (chL sz a1 a2 (evC call ha) (evC call hb) p fr k n)) e fr1 s1 = some r := (u1 _).symm.trans h6
        have he : e = .normal := by
          cases e with
          | normal => rfl
          | exit id => cases q1
          | ret => cases q1
        subst he
        obtain ⟨e2, fr2, s2, m2, u2⟩ := evC_unif hG hc okb fr1 s1 (chNext a2 i (chL sz a1 a2 (evC call ha) (evC call hb) p fr k n)) r q1
        obtain ⟨rfl, n2, i', g1, g2, g3⟩ := chNext_some ((u2 _).symm.trans q1)
        obtain ⟨s3, m3, u3⟩ := ih i' s2 k r g3
        refine ⟨s3, Nat.le_trans m1 (Nat.le_trans m2 m3), fun k2 => ?_⟩
        rw [hsh, ht]
        show kO _ (load1 s a2) = _
        rw [h3, kO_s, h5, kO_s]
        refine (u1 _).trans ?_
        show evC call hb (chNext a2 i (chL sz a1 a2 (evC call ha) (evC call hb) p fr k2 n)) fr1 s1 = _
        refine (u2 _).trans ?_
        show kO _ (load1 s2 a2) = _
        rw [g1, kO_s, g2, kO_s]
        exact u3 k2

theorem chE_some {sz fi : Nat} {asg body : KE → Fr → M → Res} {p : Pt} {fr : Fr} {s : M} {k : M → Res} {v : Value} {r : Value × M} (h : chE sz fi asg body p fr s k v = some r) :
    ∃ a1 a2, v = .func (.func fi) ⟨[]⟩ ⟨[a1, a2]⟩ ∧ ∀ k2, chE sz fi asg body p fr s k2 v = chL sz a1 a2 asg body p fr k2 loopMost (.int .i64 0) s := by
  unfold chE at h
  split at h
  · rename_i f a1 a2
    cases hb : Nat.beq f fi with
    | false => rw [hb] at h; cases h
    | true =>
      have := Nat.eq_of_beq_eq_true hb; subst this
      exact ⟨a1, a2, rfl, fun k2 => by show (bif Nat.beq f f then _ else none) = _; rw [hb]; rfl⟩
  · cases h

theorem wpOps_intro {F : Fence} {n : Nat} {ops : Array Oper} {Q : Exit → Act → World → Prop} {rest : List Nat} {i : Nat} {o : Oper} {a : Act} {w : World} (ho : ops[i]? = some o) (hw : Region.wanted o (yielded ops a.tmps) = true)
    (h : o.wpIn F n P a w (wpOpsIn F n P ops Q rest) Q) : wpOpsIn F n P ops Q (i :: rest) a w := by
  simp only [wpOpsIn, ho]; rw [if_pos hw]; exact h

theorem chunk_sound (hG : G ≤ R) (hcall : CallOK P R G call) {fi sz : Nat} (hch : ChunkFn P R G fi sz) {asg body : Code} {ha hb : HC} (oka : CodeOK P R G N asg ha) (okb : CodeOK P R G N body hb) {g : Operand} {g' : Opd} (hg : cOpd G N g = some g') {t : Nat}
    {fr : Fr} {s : M} {k : M → Res} {r : Value × M} (hev : chE sz fi (evC call ha) (evC call hb) (Pt.ofNat t) fr s k (ev fr g') = some r)
    {B : Nat} {ρ : Rho} {a : Act} {w : World} {Q : Exit → Act → World → Prop} (hs : Sim G B ρ s w) (hf : FrR N ρ fr a.tmps) (hR : R ≤ s.next) (hB : ∀ s', k s' = some r → s'.next ≤ B)
    (hk : ∀ s' ρ' w' D, k s' = some r → Ext R B ρ s w ρ' s' w' → Sim G B ρ' s' w' → w.heap.size ≤ D → w'.heap[D]? = some (.deferred (some [])) → (∀ id lo, ρ' id = some (.live lo) → lo.b ≠ D) →
      Q .normal { a with defers := { target := .collected D, args := #[] } :: a.defers } w') : (Code.rangeFunc g #[t] asg body).wpIn (Wd none) 0 P Q a w := by
  obtain ⟨a1, a2, hv, hsh⟩ := chE_some hev
  have hL : chL sz a1 a2 (evC call ha) (evC call hb) (Pt.ofNat t) fr k loopMost (.int .i64 0) s = some r := (hsh k).symm.trans hev
  obtain ⟨fnI, R0, R1, R2, R3, id4, ops4, o10, ats, hfn, hname, hnt, hres, hbody, ok0, ok1, ok2, ok3, hsz4, ok4, ho10, hop10, hg10, hd10, ok5⟩ := hch
  have hgv := opd_rel hs hf hg
  rw [hv] at hgv
  generalize hge : a.eval g = ge at hgv
  cases hgv with
  | func _ q1 q2 =>
  cases q1
  cases q2 with
  | cons r1 q2 =>
  cases q2 with
  | cons r2 q2 =>
  cases q2
  rename_i b1 b2
  refine wpIn_rangeFunc ?_
  intro fn _
  obtain ⟨rec, hrec⟩ : ∃ rec : LoopState → Option Code → Loop, rec = fun st pe => { state := st, pending := pe, fn, tmps := a.tmps, params := #[t], assign := asg, body, defers := w.heap.size } := ⟨_, rfl⟩
  obtain ⟨W1, hW1⟩ : ∃ W1, (w.alloc (.deferred (some []))).alloc (.loop (rec .ready none)) = W1 := ⟨_, rfl⟩
  have hcf : ∀ args w, (callFunc fi args).run P w = .ok (.enter fi args) w := by
    intro args w
    have hbn : fnI.body.isNone = false := by rw [hbody]; rfl
    simp only [callFunc, Sem.run_bind, run_program, Result.andThen_ok, hfn]
    simp [hname, hbn]
  refine ⟨w.heap.size + 1, [{ target := .collected w.heap.size, args := #[] }], W1, { target := .fn (.func fi) #[b1, b2], args := #[.func (.yield (w.heap.size + 1)) #[] #[]] }, W1, fi,
    #[.func (.yield (w.heap.size + 1)) #[] #[]] ++ #[b1, b2], W1, ?_, ?_, fun f' hf' => trivial, ?_, fun h => (by cases h), ?_⟩
  · rw [← hW1, hrec]; exact run_enterLoop_outer _ _ _ _ _
  · have hge' : Act.eval a g = .func (.func fi) #[] #[b1, b2] := hge
    simp only [resolve, hge']
    simp [Deferred.ofValue, Act.eval]
  · simp only [invoke, hcf]
  -- the iterator
  have hblk := hs.blk
  have hinv0 : Inv G R B ρ s w (w.heap.size + 1) w.heap.size (rec .ready none) s ρ W1 := by
    refine ⟨?_, ?_, ?_, ?_, fun id lo hlo => ?_⟩
    · rw [← hW1]; exact ((Ext.refl R B ρ s w).alloc _ hblk).alloc _ hblk
    · refine hs.world (fun id lo hlo => ?_) (by rw [← hW1]; simp; omega)
      rw [← hW1, heap_alloc_lt _ _ _ (by have := hblk id lo hlo; simp; omega), heap_alloc_lt _ _ _ (hblk id lo hlo)]
    · rw [← hW1]; have := World.alloc_heap_new (w.alloc (.deferred (some []))) (.loop (rec .ready none)); rwa [World.size_alloc] at this
    · rw [← hW1]; exact (heap_alloc_lt _ _ _ (by simp)).trans (World.alloc_heap_new w _)
    · have := hblk id lo hlo; omega
  refine callsIn_wide.2 (callsIn_wide.1 (callsIn_of_wp (F := Fence.wide) (n := 0) hfn hbody trivial ?_))
  have hargs : FrR 31 ρ (args0 0 [.chan (some (w.heap.size + 1)), a1, a2] .lf) ((#[.func (.yield (w.heap.size + 1)) #[] #[]] ++ #[b1, b2]) ++ Array.replicate (fnI.ntmps - (#[Value.func (.yield (w.heap.size + 1)) #[] #[]] ++ #[b1, b2]).size) undef) := by
    have := args_rel (N := 31) (ρ := ρ) (args := [.chan (some (w.heap.size + 1)), a1, a2]) (args' := [.func (.yield (w.heap.size + 1)) #[] #[], b1, b2]) (.cons (.yld _) (.cons r1 (.cons r2 .nil))) (by simp)
    rw [hnt]; exact this
  have hit0 : ItFr (w.heap.size + 1) a1 a2 undefV (args0 0 [.chan (some (w.heap.size + 1)), a1, a2] .lf) := by
    refine ⟨?_, ?_, ?_, ?_⟩ <;> simp [T, args0_get 31, Fr.get_lf]
  have hnB : s.next ≤ B := by
    obtain ⟨s3, m3, u3⟩ := chL_unif hG hcall oka okb _ _ _ _ _ hL
    exact Nat.le_trans m3 (hB s3 ((u3 k).symm.trans hL))
  -- its head
  have e0 : ∀ k2 : KE, evC call c0 k2 (args0 0 [.chan (some (w.heap.size + 1)), a1, a2] .lf) s = k2 .normal ((args0 0 [.chan (some (w.heap.size + 1)), a1, a2] .lf).set (T 4) (.int .i64 0)) s := fun k2 => rfl
  refine wpIn_seq (evC_exact hG hcall ok0 e0 hinv0.sim hargs hR hnB fun ρ' a' w' x1 x2 x3 x4 => ?_)
  have hinv1 := hinv0.step x1 x2
  have hit1 : ItFr (w.heap.size + 1) a1 a2 (.int .i64 0) ((args0 0 [.chan (some (w.heap.size + 1)), a1, a2] .lf).set (T 4) (.int .i64 0)) :=
    ⟨by simp [get_setT, hit0.s0], by simp [get_setT, hit0.s1], by simp [get_setT, hit0.s2], by simp [get_setT]⟩
  show Code.wpIn _ _ _ _ _ _ _
  refine wpIn_block (wpIn_loop_rounds loopMost ?_)
  -- the rounds
  have key : ∀ (n : Nat) (i : Value) (s1 : M) (ρ1 : Rho) (fr1 : Fr) (aI : Act) (W : World), chL sz a1 a2 (evC call ha) (evC call hb) (Pt.ofNat t) fr k n i s1 = some r → Inv G R B ρ s w (w.heap.size + 1) w.heap.size (rec .ready none) s1 ρ1 W →
      FrR 31 ρ1 fr1 aI.tmps → ItFr (w.heap.size + 1) a1 a2 i fr1 → aI.defers = [] → R ≤ s1.next →
      Code.roundsIn (Wd none) 0 P (.seq R1 (.seq (.block 1 (.seq R3 (.seq (.region id4 ops4 false) (.cond (.tmp 30) .ret .skip)))) R2)) (Exit.inBlock 0 (bodyPost P fnI (rangePost (Wd none) 0 P (w.heap.size + 1) Q { a with defers := { target := .collected w.heap.size, args := #[] } :: a.defers }))) n aI W := by
    intro n
    induction n with
    | zero => intro i s1 ρ1 fr1 aI W h; cases h
    | succ n ihn =>
      intro i s1 ρ1 fr1 aI W h hinv hfr hit hdef hR1
      have hs1B : s1.next ≤ B := by
        obtain ⟨s3, m3, u3⟩ := chL_unif hG hcall oka okb _ _ _ _ _ h
        exact Nat.le_trans m3 (hB s3 ((u3 k).symm.trans h))
      obtain ⟨v, h1, h2⟩ := kO_some (show kO _ (load1 s1 a1) = some r from h)
      show Code.wpIn _ _ _ _ _ _ _
      cases ht : chTest v i with
      | none => rw [ht] at h2; cases h2
      | some b =>
      rw [ht] at h2
      obtain ⟨fr2, hit2, e1⟩ := ev_c1 (call := call) (s := s1) hit h1 ht
      refine wpIn_seq (evC_exact hG hcall ok1 e1 hinv.sim hfr hR1 hs1B fun ρ2 aI2 W2 y1 y2 y3 y4 => ?_)
      have hinv2 := hinv.step y1 y2
      cases b with
      | false =>
        -- done
        show (if (0 : Nat) = 0 then bodyPost P fnI (rangePost (Wd none) 0 P (w.heap.size + 1) Q { a with defers := { target := .collected w.heap.size, args := #[] } :: a.defers }) .normal aI2 W2 else bodyPost P fnI (rangePost (Wd none) 0 P (w.heap.size + 1) Q { a with defers := { target := .collected w.heap.size, args := #[] } :: a.defers }) (.exit 0) aI2 W2)
        rw [if_pos rfl]
        refine ⟨y4.trans hdef, .tuple #[], ?_, ?_⟩
        · simp [results, hres]
        · refine ⟨none, W2.putObj (w.heap.size + 1) (.loop { rec .ready none with state := .exhausted }), ?_, ?_⟩
          · have hp : (rec .ready none).pending = none := by rw [hrec]
            rw [run_endLoop (P := P) hinv2.hl (by rw [hrec]; simp)]
            exact congrArg (fun x => Result.ok x _) hp
          · have hinv3 := hinv2.put (lp' := { rec .ready none with state := .exhausted }) hblk (Nat.le_succ _) (by omega)
            exact hk s1 ρ2 _ w.heap.size h2 hinv3.ext hinv3.sim (Nat.le_refl _) hinv3.hD fun id lo hlo => (hinv3.ofl id lo hlo).2
      | true =>
        show Code.wpIn _ _ _ _ _ _ _
        obtain ⟨m, h3, h4⟩ := kO_some (show kO _ (load1 s1 a2) = some r from h2)
        obtain ⟨c, h5, h6⟩ := kO_some h4
        obtain ⟨fr3, fr4, e3, e4, hit4, h19, h28⟩ := ev_c34 (call := call) (s := s1) hit2 h1 h3 h5
        refine wpIn_seq (wpIn_block (wpIn_seq (evC_exact hG hcall ok3 e3 hinv2.sim y3 hR1 hs1B fun ρ3 aI3 W3 z1 z2 z3 z4 => ?_)))
        have hinv3 := hinv2.step z1 z2
        show Code.wpIn _ _ _ _ _ _ _
        refine wpIn_seq (wpIn_region ?_)
        rw [List.range_eq_range', hsz4, show List.range' 0 12 = List.range' 0 (c4 sz).length ++ [10, 11] from rfl]
        refine evR_exact hG hcall ok4 e4 hinv3.sim z3 hR1 hs1B fun ρ4 aI4 W4 u1 u2 u3 u4 => ?_
        have hinv4 := hinv3.step u1 u2
        -- the call of yield
        have hw10 : Region.wanted o10 (yielded ops4 aI4.tmps) = true := by unfold Region.wanted; rw [hg10]
        refine wpOps_intro ho10 hw10 ?_
        have f19 := u3.slot (t := 19) (by omega) h19
        have f28 := u3.slot (t := 28) (by omega) h28
        generalize hq19 : aI4.tmps.getD 19 undef = q19 at f19
        cases f19 with
        | yld _ =>
        refine ⟨fun _ _ => trivial, ?_⟩
        rw [Oper.semAt_eq _ _ _ (fun c e => by rw [hop10] at e; cases e)]
        have hy : (execOp aI4.eval o10).run P W4 = .ok (.round (w.heap.size + 1) fn (a.tmps.setIfInBounds t (aI4.tmps.getD 28 undef)) asg body) W4 := by
          have hyy := run_yield (P := P) (args := #[aI4.tmps.getD 28 undef]) hinv4.hl (by rw [hrec]; rfl)
          rw [hrec] at hyy
          have e19 : aI4.eval (.tmp 19) = .func (.yield (w.heap.size + 1)) #[] #[] := hq19
          have e28 : aI4.eval (.tmp 28) = aI4.tmps.getD 28 undef := rfl
          unfold execOp; rw [hop10]
          simp only [resolve, Sem.run_bind, Sem.run_pure, Result.andThen_ok, Deferred.ofValue, List.map_toArray, List.map_cons, List.map_nil, e19, e28, invoke]
          simpa using hyy
        rw [hy, Oper.uponIn_round]
        refine ⟨fun h => (by cases h), roundIn_of_wpIn trivial ?_⟩
        have hfb : FrR N ρ4 (fr.set (Pt.ofNat t) c) ({ tmps := a.tmps.setIfInBounds t (aI4.tmps.getD 28 undef), defers := [] } : Act).tmps := by
          have := FrR.put (a := { tmps := a.tmps, defers := [] }) (hf.mono hinv4.ext.le) (d := some t) f28
          exact this
        refine evC_sound hG hcall oka (some (w.heap.size + 1)) _ (fr.set (Pt.ofNat t) c) s1 r B ρ4 _ W4 _ h6 hinv4.sim hfb hR1 (fun e fr' s' q => ?_) fun e fr5 s5 ρ5 a5 W5 q v1 v2 v3 v4 => ?_
        · cases e with
          | normal =>
            obtain ⟨e2, frb, s2, m2, ub⟩ := evC_unif hG hcall okb fr' s' _ r q
            obtain ⟨rfl, n2, i', g1, g2, g3⟩ := chNext_some ((ub _).symm.trans q)
            obtain ⟨s3, m3, u3'⟩ := chL_unif hG hcall oka okb _ _ _ _ _ g3
            exact Nat.le_trans m2 (Nat.le_trans m3 (hB s3 ((u3' k).symm.trans g3)))
          | exit id => cases q
          | ret => cases q
        cases e with
        | exit id => cases q
        | ret => cases q
        | normal =>
        have hinv5 := hinv4.step v1 v2
        show ∃ w₂, _
        have hbr := run_beginRound (P := P) hinv5.hl (by rw [hrec])
        refine ⟨_, hbr, ?_⟩
        have hinv6 := hinv5.put (lp' := { rec .ready none with state := .busy }) hblk (Nat.le_succ _) (by omega)
        have hR5 : R ≤ s5.next := Nat.le_trans hR1 v1.next
        refine evC_sound hG hcall okb (some (w.heap.size + 1)) _ fr5 s5 r B ρ5 _ _ _ q hinv6.sim v3 hR5 (fun e fr' s' q' => ?_) fun e fr7 s7 ρ7 a7 W7 q' p1 p2 p3 p4 => ?_
        · obtain ⟨rfl, n2, i', g1, g2, g3⟩ := chNext_some q'
          obtain ⟨s3, m3, u3'⟩ := chL_unif hG hcall oka okb _ _ _ _ _ g3
          exact Nat.le_trans m3 (hB s3 ((u3' k).symm.trans g3))
        obtain ⟨rfl, n2, i', g1, g2, g3⟩ := chNext_some q'
        have hinv7 := hinv6.step p1 p2
        have her := run_endRound (P := P) none hinv7.hl
        refine ⟨_, _, her, ?_⟩
        have hinv8 := hinv7.put (lp' := { ({ rec .ready none with state := .busy } : Loop) with state := .ready, pending := none }) hblk (Nat.le_succ _) (by omega)
        have hrr : ({ ({ rec .ready none with state := .busy } : Loop) with state := .ready, pending := none } : Loop) = rec .ready none := by rw [hrec]
        rw [hrr] at hinv8
        have hle47 : ρ4.le ρ7 := Rho.le_trans v1.le p1.le
        -- behind the call
        simp only [Option.isNone_none, if_true]
        rw [hrr]
        have hfr9 : FrR 31 ρ7 (fr4.set (T 29) (.bool true)) (aI4.put o10.dst (.bool true)).tmps := by
          rw [hd10]; exact FrR.put (d := some 29) (u3.mono hle47) (.bool true)
        have hR7 : R ≤ s7.next := Nat.le_trans hR5 p1.next
        have hs7B : s7.next ≤ B := by
          obtain ⟨s3, m3, u3'⟩ := chL_unif hG hcall oka okb _ _ _ _ _ g3
          exact Nat.le_trans m3 (hB s3 ((u3' k).symm.trans g3))
        have e5 : ∀ k2 : Fr → M → Res, evR call k2 c5 (fr4.set (T 29) (.bool true)) s7 = k2 ((fr4.set (T 29) (.bool true)).set (T 30) (.bool false)) s7 := by
          intro k2
          unfold c5
          simp only [evR_one, evR_nil, opK_p1, ev_t, putD_some]
          simp [T, get_setT, vNot, kO_s]
        show wpOpsIn (Wd none) 0 P ops4 _ [11] _ _
        rw [show ([11] : List Nat) = List.range' 11 c5.length ++ [] from rfl]
        refine evR_exact hG hcall ok5 e5 hinv8.sim hfr9 hR7 hs7B fun ρ8 a8 W8 n1 n2 n3 n4 => ?_
        have hinv9 := hinv8.step n1 n2
        show Code.wpIn _ _ _ _ _ _ _
        have f30 := n3.slot (t := 30) (v := .bool false) (by omega) (by simp [T, get_setT])
        generalize hq30 : a8.tmps.getD 30 undef = q30 at f30
        cases f30 with
        | bool _ =>
        refine wpIn_cond_false hq30 (wpIn_skip ?_)
        show Code.wpIn _ _ _ _ _ _ _
        have hit9 : ItFr (w.heap.size + 1) a1 a2 i ((fr4.set (T 29) (.bool true)).set (T 30) (.bool false)) :=
          ⟨by simp [get_setT, hit4.s0], by simp [get_setT, hit4.s1], by simp [get_setT, hit4.s2], by simp [get_setT, hit4.s4]⟩
        obtain ⟨fr10, hit10, e2⟩ := ev_c2 (call := call) (s := s7) hit9 g1 g2
        refine evC_exact hG hcall ok2 e2 hinv9.sim n3 hR7 hs7B fun ρ10 a10 W10 o1 o2 o3 o4 => ?_
        have hinv10 := hinv9.step o1 o2
        show Code.roundsIn _ _ _ _ _ _ _ _
        refine ihn i' s7 ρ10 fr10 a10 W10 g3 hinv10 o3 hit10 ?_ hR7
        rw [o4, n4, hd10]
        show aI4.defers = []
        rw [u4, z4, y4, hdef]
  exact key loopMost (.int .i64 0) s ρ' _ a' w' hL hinv1 x3 hit1 x4 hR
end
end Go.HM
