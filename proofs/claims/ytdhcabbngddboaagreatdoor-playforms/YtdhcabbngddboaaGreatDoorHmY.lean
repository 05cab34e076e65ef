import Derived.Test.YtdhcabbngddboaaGreatDoorHmO
import Derived.Test.YtdhcabbngddboaaGreatDoorHmP
import Derived.RangeFuncRecord
import Derived.ControlIn
set_option linter.unusedVariables false
set_option linter.unusedSimpArgs false
namespace Go.HM

/-! ### the world moves, memory does not -/
theorem heap_alloc_lt (w : World) (o : Obj) (b : Nat) (h : b < w.heap.size) : (w.alloc o).heap[b]? = w.heap[b]? := by
  show (w.heap.push o)[b]? = _
  rw [Array.getElem?_push, if_neg (by omega)]
theorem Sim.world {G B : Nat} {ρ : Rho} {m : M} {w w' : World} (hs : Sim G B ρ m w) (h : ∀ id l, ρ id = some (.live l) → w'.heap[l.b]? = w.heap[l.b]?) (hsz : w.heap.size ≤ w'.heap.size) : Sim G B ρ m w' where
  obj := fun id l hB hl => by rw [h id l hl]; exact hs.obj id l hB hl
  inj := hs.inj
  blk := fun id l hl => Nat.lt_of_lt_of_le (hs.blk id l hl) hsz
  fresh := hs.fresh
  high := hs.high
  dead := hs.dead
  glob := hs.glob
  sat := hs.sat
theorem Ext.alloc {R B : Nat} {ρ ρ' : Rho} {m m' : M} {w w' : World} (h : Ext R B ρ m w ρ' m' w') (o : Obj) (hblk : ∀ id l, ρ id = some (.live l) → l.b < w.heap.size) : Ext R B ρ m w ρ' m' (w'.alloc o) where
  le := h.le
  next := h.next
  none := h.none
  ro := h.ro
  high := fun id hB => ⟨(h.high id hB).1, fun l hl => (heap_alloc_lt w' o l.b (Nat.lt_of_lt_of_le (hblk id l hl) h.size)).trans ((h.high id hB).2 l hl)⟩
  os := h.os
  tape := h.tape
  output := h.output
  size := by rw [World.size_alloc]; exact Nat.le_succ_of_le h.size
  keep := fun b hb hk => (heap_alloc_lt w' o b (Nat.lt_of_lt_of_le hb h.size)).trans (h.keep b hb hk)
  own := h.own
theorem Ext.put {R B : Nat} {ρ ρ' : Rho} {m m' : M} {w w' : World} (h : Ext R B ρ m w ρ' m' w') (l : Nat) (o : Obj) (hl : w.heap.size ≤ l) (hblk : ∀ id l, ρ id = some (.live l) → l.b < w.heap.size) : Ext R B ρ m w ρ' m' (w'.putObj l o) where
  le := h.le
  next := h.next
  none := h.none
  ro := h.ro
  high := fun id hB => ⟨(h.high id hB).1, fun l' hl' => (World.putObj_heap_other (by have := hblk id l' hl'; omega)).trans ((h.high id hB).2 l' hl')⟩
  os := h.os
  tape := h.tape
  output := h.output
  size := by rw [World.putObj_size]; exact h.size
  keep := fun b hb hk => (World.putObj_heap_other (by omega)).trans (h.keep b hb hk)
  own := h.own

/-! ### what is told exactly -/
section
variable {P : Program} {R G N : Nat} {call : CallF}
open Classical in
theorem evC_exact (hG : G ≤ R) (hcall : CallOK P R G call) {c : Code} {h : HC} (hok : CodeOK P R G N c h) {rd : Option Nat} {fr fr1 : Fr} {s s1 : M} {e1 : Ex} (hev : ∀ k2 : KE, evC call h k2 fr s = k2 e1 fr1 s1)
    {B : Nat} {ρ : Rho} {a : Act} {w : World} {Q : Exit → Act → World → Prop} (hs : Sim G B ρ s w) (hf : FrR N ρ fr a.tmps) (hR : R ≤ s.next) (hB : s1.next ≤ B)
    (hk : ∀ ρ' a' w', Ext R B ρ s w ρ' s1 w' → Sim G B ρ' s1 w' → FrR N ρ' fr1 a'.tmps → a'.defers = a.defers → Q (exOf e1) a' w') : c.wpIn (Wd rd) 0 P Q a w := by
  let k : KE := fun e fr' s' => if e = e1 ∧ fr' = fr1 ∧ s' = s1 then some (undefV, s1) else none
  have hkk : ∀ e fr' s', k e fr' s' = some (undefV, s1) → e = e1 ∧ fr' = fr1 ∧ s' = s1 := by
    intro e fr' s' h
    by_cases hc : e = e1 ∧ fr' = fr1 ∧ s' = s1
    · exact hc
    · simp only [k, if_neg hc] at h; cases h
  refine evC_sound hG hcall hok rd k fr s (undefV, s1) B ρ a w Q ((hev k).trans (by simp [k])) hs hf hR (fun e fr' s' h => by rw [(hkk e fr' s' h).2.2]; exact hB) fun e fr' s' ρ' a' w' h1 h2 h3 h4 h5 => ?_
  obtain ⟨rfl, rfl, rfl⟩ := hkk e fr' s' h1
  exact hk ρ' a' w' h2 h3 h4 h5

/-- some of a region's operations, from the i-th on -/
inductive RegP (P : Program) (R G N : Nat) (ops : Array Oper) : Nat → List HR → Prop
  | nil {i} : RegP P R G N ops i []
  | cons {i o h hs} : ops[i]? = some o → HROK P R G N ops o h → RegP P R G N ops (i + 1) hs → RegP P R G N ops i (h :: hs)

theorem evR_unifP (hG : G ≤ R) (hc : CallOK P R G call) {ops : Array Oper} : ∀ (hs : List HR) (i : Nat), RegP P R G N ops i hs → ∀ (fr : Fr) (s : M), UnifF s (fun k => evR call k hs fr s) := by
  intro hs
  induction hs with
  | nil => intro i _ fr s k r hr; exact ⟨fr, s, Nat.le_refl _, fun k2 => rfl⟩
  | cons o hs ih =>
    intro i hreg fr s k r hr
    cases hreg with
    | cons g1 g2 g3 =>
    have hsh : ∀ k2, evR call k2 (o :: hs) fr s = Bool.rec (motive := fun _ => Res) (evR call k2 hs (putD o.dst undefV fr) s) (doOp call fr s (fun v s' => evR call k2 hs (putD o.dst v fr) s') o.op) (wants fr o.guard) := fun k2 => (evR_cons _ _ _ _ _ _)
    have hr' := hr
    simp only [hsh] at hr'
    cases hw : wants fr o.guard with
    | false =>
      rw [hw] at hr'
      obtain ⟨fr', s', hm, h⟩ := ih _ g3 _ _ _ _ hr'
      exact ⟨fr', s', hm, fun k2 => by show evR call k2 (o :: hs) fr s = _; rw [hsh, hw]; exact h k2⟩
    | true =>
      rw [hw] at hr'
      obtain ⟨v, s1, h0, hm1, h1, _⟩ := doOp_told hG hc g2.op hr'
      obtain ⟨fr', s', hm, h⟩ := ih _ g3 _ _ _ _ h0
      exact ⟨fr', s', Nat.le_trans hm1 hm, fun k2 => by show evR call k2 (o :: hs) fr s = _; rw [hsh, hw]; simp only; rw [h1]; exact h k2⟩

theorem evR_pre (hG : G ≤ R) (hcall : CallOK P R G call) {ops : Array Oper} {k : Fr → M → Res} {r : Value × M} {rd : Option Nat} {Q : Exit → Act → World → Prop} {rest : List Nat} :
    ∀ (hs : List HR) (i : Nat), RegP P R G N ops i hs → ∀ (fr : Fr) (s : M) (B : Nat) (ρ : Rho) (a : Act) (w : World), evR call k hs fr s = some r → Sim G B ρ s w → FrR N ρ fr a.tmps → R ≤ s.next → (∀ fr' s', k fr' s' = some r → s'.next ≤ B) →
      (∀ fr' s' ρ' a' w', k fr' s' = some r → Ext R B ρ s w ρ' s' w' → Sim G B ρ' s' w' → FrR N ρ' fr' a'.tmps → a'.defers = a.defers → wpOpsIn (Wd rd) 0 P ops Q rest a' w') → wpOpsIn (Wd rd) 0 P ops Q (List.range' i hs.length ++ rest) a w := by
  intro hs
  induction hs with
  | nil => intro i hreg fr s B ρ a w hev hsim hfr hR hB hk; exact hk fr s ρ a w hev (Ext.refl _ _ _ _ _) hsim hfr rfl
  | cons h hs ih =>
    intro i hreg fr s B ρ a w hev hsim hfr hR hB hk
    cases hreg with
    | cons h1 h2 h3 =>
      rename_i o
      rw [List.length_cons, List.range'_succ, List.cons_append]
      simp only [wpOpsIn, h1]
      rw [wants_rel h2 hfr]
      have hev' : Bool.rec (motive := fun _ => Res) (evR call k hs (putD h.dst undefV fr) s) (doOp call fr s (fun v s' => evR call k hs (putD h.dst v fr) s') h.op) (wants fr h.guard) = some r := (evR_cons _ _ _ _ _ _).symm.trans hev
      cases hw : wants fr h.guard with
      | false =>
        rw [hw] at hev'
        simp only [Bool.false_eq_true, if_false]
        rw [h2.dst] at hev'
        refine ⟨fun _ _ => trivial, ih (i + 1) h3 _ s B ρ _ w hev' hsim (hfr.put (VRundef ρ)) hR hB fun fr' s' ρ' a' w' q1 q2 q3 q4 q5 => hk fr' s' ρ' a' w' q1 q2 q3 q4 (by rw [q5]; cases o.dst <;> rfl)⟩
      | true =>
        rw [hw] at hev'
        simp only [if_true]
        obtain ⟨v, s', hk', hm, _, htold⟩ := doOp_told hG hcall h2.op hev'
        have hsB : s'.next ≤ B := by
          obtain ⟨frx, sx, hmx, hux⟩ := evR_unifP hG hcall _ _ h3 _ _ _ _ hk'
          exact Nat.le_trans hmx (hB frx sx ((hux k).symm.trans hk'))
        refine htold B ρ w a hsim hfr hR hsB rd _ _ fun v' ρ' w' r1 r2 r3 => ?_
        rw [h2.dst] at hk'
        refine ih (i + 1) h3 _ s' B ρ' _ w' hk' r3 ((hfr.mono r2.le).put r1) (Nat.le_trans hR r2.next) hB fun fr' s'' ρ'' a' w'' q1 q2 q3 q4 q5 => hk fr' s'' ρ'' a' w'' q1 (r2.trans q2) q3 q4 (by rw [q5]; cases o.dst <;> rfl)

open Classical in
theorem evR_exact (hG : G ≤ R) (hcall : CallOK P R G call) {ops : Array Oper} {rd : Option Nat} {Q : Exit → Act → World → Prop} {rest : List Nat} {hs : List HR} {i : Nat} (hreg : RegP P R G N ops i hs) {fr fr1 : Fr} {s s1 : M}
    (hev : ∀ k2 : Fr → M → Res, evR call k2 hs fr s = k2 fr1 s1) {B : Nat} {ρ : Rho} {a : Act} {w : World} (hsim : Sim G B ρ s w) (hfr : FrR N ρ fr a.tmps) (hR : R ≤ s.next) (hB : s1.next ≤ B)
    (hk : ∀ ρ' a' w', Ext R B ρ s w ρ' s1 w' → Sim G B ρ' s1 w' → FrR N ρ' fr1 a'.tmps → a'.defers = a.defers → wpOpsIn (Wd rd) 0 P ops Q rest a' w') : wpOpsIn (Wd rd) 0 P ops Q (List.range' i hs.length ++ rest) a w := by
  let k : Fr → M → Res := fun fr' s' => if fr' = fr1 ∧ s' = s1 then some (undefV, s1) else none
  have hkk : ∀ fr' s', k fr' s' = some (undefV, s1) → fr' = fr1 ∧ s' = s1 := by
    intro fr' s' h
    by_cases hc : fr' = fr1 ∧ s' = s1
    · exact hc
    · simp only [k, if_neg hc] at h; cases h
  refine evR_pre hG hcall hs i hreg fr s B ρ a w (k := k) (r := (undefV, s1)) ((hev k).trans (by simp [k])) hsim hfr hR (fun fr' s' h => by rw [(hkk fr' s' h).2]; exact hB) fun fr' s' ρ' a' w' h1 h2 h3 h4 h5 => ?_
  obtain ⟨rfl, rfl⟩ := hkk fr' s' h1
  exact hk ρ' a' w' h2 h3 h4 h5
end

/-! ### the iterator of slices.Chunk -/
abbrev T (n : Nat) : Pt := Pt.ofNat n
noncomputable def c0 : HC := .region [⟨some (T 4), none, .mv (.c (.int .i64 0))⟩]
noncomputable def c1 : HC := .seq (.region [⟨some (T 6), none, .mv (.t (T 4))⟩, ⟨some (T 7), none, .rd rLoad1 [.t (T 1)]⟩, ⟨some (T 8), none, .p1 vLenS (.t (T 7))⟩, ⟨some (T 9), none, .p2 bLt (.t (T 6)) (.t (T 8))⟩]) (.cond (.t (T 9)) .skip (.exit 0))
noncomputable def c2 : HC := .region [⟨some (T 10), none, .mv (.t (T 4))⟩, ⟨some (T 11), none, .rd rLoad1 [.t (T 2)]⟩, ⟨some (T 12), none, .p2 bAdd (.t (T 10)) (.t (T 11))⟩, ⟨some (T 4), none, .mv (.t (T 12))⟩]
noncomputable def c3 (sz : Nat) : HC := .draws [⟨some (T 13), none, .rd rLoad1 [.t (T 2)]⟩, ⟨some (T 14), none, .rd rLoad1 [.t (T 1)]⟩, ⟨some (T 15), none, .mv (.t (T 4))⟩, ⟨some (T 16), none, .pn (vSlice true false false sz) [.t (T 14), .t (T 15)]⟩,
  ⟨some (T 17), none, .p1 vLenS (.t (T 16))⟩, ⟨some (T 18), none, .pn (vMin false) [.t (T 13), .t (T 17)]⟩, ⟨some (T 5), none, .mv (.t (T 18))⟩] []
noncomputable def c4 (sz : Nat) : List HR := [⟨some (T 19), none, .mv (.t (T 0))⟩, ⟨some (T 20), none, .rd rLoad1 [.t (T 1)]⟩, ⟨some (T 21), none, .mv (.t (T 4))⟩, ⟨some (T 22), none, .mv (.t (T 4))⟩, ⟨some (T 23), none, .mv (.t (T 5))⟩, ⟨some (T 24), none, .p2 bAdd (.t (T 22)) (.t (T 23))⟩,
  ⟨some (T 25), none, .mv (.t (T 4))⟩, ⟨some (T 26), none, .mv (.t (T 5))⟩, ⟨some (T 27), none, .p2 bAdd (.t (T 25)) (.t (T 26))⟩, ⟨some (T 28), none, .pn (vSlice true true true sz) [.t (T 20), .t (T 21), .t (T 24), .t (T 27)]⟩]
def c5 : List HR := [⟨some (T 30), none, .p1 vNot (.t (T 29))⟩]
def c6 : HC := .cond (.t (T 30)) .ret .skip

theorem get_setT (a b : Nat) (x : Value) (t : Fr) : Fr.get (Pt.ofNat a) (Fr.set (Pt.ofNat b) x t) = if a = b then x else Fr.get (Pt.ofNat a) t := by
  rw [Fr.get_set]
  by_cases h : a = b
  · rw [if_pos h, if_pos (by rw [h])]
  · rw [if_neg h, if_neg (fun e => h (Pt.ofNat_inj e))]

section
variable (call : CallF)
theorem evC_region (k : KE) (ops : List HR) : evC call (.region ops) k = evR call (k .normal) ops := rfl
theorem evC_seq (k : KE) (a b : HC) : evC call (.seq a b) k = evC call a (seqK (evC call b k) k) := rfl
theorem evC_cond (k : KE) (c : Opd) (a b : HC) (fr : Fr) (s : M) : evC call (.cond c a b) k fr s = condK (evC call a k fr s) (evC call b k fr s) (ev fr c) := rfl
theorem evC_skip (k : KE) : evC call .skip k = k .normal := rfl
theorem evC_ret (k : KE) : evC call .ret k = k .ret := rfl
theorem evC_exit (k : KE) (id : Nat) : evC call (.exit id) k = k (.exit id) := rfl
theorem evC_draws (k : KE) (ops : List HR) (ps : List (Nat × Nat)) (fr : Fr) (s : M) : evC call (.draws ops ps) k fr s = evD call (fun tr fr' s' => bif pairsOk ops tr ps then k .normal fr' s' else none) ops [] fr s := rfl
theorem evR_nil (k : Fr → M → Res) (fr : Fr) (s : M) : evR call k [] fr s = k fr s := rfl
theorem evR_one (k : Fr → M → Res) (d : Option Pt) (op : HOp) (hs : List HR) (fr : Fr) (s : M) : evR call k (⟨d, none, op⟩ :: hs) fr s = opK op call fr s (fun v s' => evR call k hs (putD d v fr) s') := evR_cons _ _ _ _ _ _
theorem evD_nil (k : List En → Fr → M → Res) (tr : List En) (fr : Fr) (s : M) : evD call k [] tr fr s = k tr fr s := rfl
theorem evD_one (k : List En → Fr → M → Res) (d : Option Pt) (op : HOp) (hs : List HR) (tr : List En) (fr : Fr) (s : M) : evD call k (⟨d, none, op⟩ :: hs) tr fr s = opK op call fr s (fun v s' => evD call k hs (tr ++ [⟨true, fr, s, v, s'⟩]) (putD d v fr) s') := evD_cons _ _ _ _ _ _ _
theorem opK_mv (x : Opd) (fr : Fr) (s : M) (k : KV) : opK (.mv x) call fr s k = k (ev fr x) s := rfl
theorem opK_p1 (f : F1) (x : Opd) (fr : Fr) (s : M) (k : KV) : opK (.p1 f x) call fr s k = kO (fun v => k v s) (f (ev fr x)) := rfl
theorem opK_p2 (f : F2) (x y : Opd) (fr : Fr) (s : M) (k : KV) : opK (.p2 f x y) call fr s k = kO (fun v => k v s) (f (ev fr x) (ev fr y)) := rfl
theorem opK_pn (f : FN) (xs : List Opd) (fr : Fr) (s : M) (k : KV) : opK (.pn f xs) call fr s k = kO (fun v => k v s) (f (evs fr xs)) := rfl
theorem opK_rd (f : RD) (xs : List Opd) (fr : Fr) (s : M) (k : KV) : opK (.rd f xs) call fr s k = kO (fun v => k v s) (f (evs fr xs) s) := rfl
theorem opK_call (f : Opd) (xs : List Opd) (fr : Fr) (s : M) (k : KV) : opK (.call f xs) call fr s k = callV call (evs fr xs) s k (ev fr f) := rfl
end
theorem ev_t (fr : Fr) (p : Pt) : ev fr (.t p) = fr.get p := rfl
theorem ev_c (fr : Fr) (v : Value) : ev fr (.c v) = v := rfl
theorem evs_nil (fr : Fr) : evs fr [] = [] := rfl
theorem evs_cons (fr : Fr) (x : Opd) (l : List Opd) : evs fr (x :: l) = ev fr x :: evs fr l := rfl
theorem putD_some (p : Pt) (v : Value) (fr : Fr) : putD (some p) v fr = fr.set p v := rfl
theorem putD_none (v : Value) (fr : Fr) : putD none v fr = fr := rfl
theorem kO_s (k : Value → Res) (v : Value) : kO k (some v) = k v := rfl
theorem rLoad1_one (a : Value) (m : M) : rLoad1 [a] m = load1 m a := rfl
theorem pairsOk_nil (ops : List HR) (tr : List En) : pairsOk ops tr [] = true := rfl
theorem condK_true (a b : Res) : condK a b (.bool true) = a := rfl
theorem condK_false (a b : Res) : condK a b (.bool false) = b := rfl
theorem seqK_normal (n : Fr → M → Res) (k : KE) : seqK n k .normal = n := rfl
theorem seqK_exit (n : Fr → M → Res) (k : KE) (id : Nat) : seqK n k (.exit id) = k (.exit id) := rfl

/-- the iterator's slots -/
structure ItFr (l : Nat) (a1 a2 i : Value) (fr : Fr) : Prop where
  s0 : fr.get (T 0) = .chan (some l)
  s1 : fr.get (T 1) = a1
  s2 : fr.get (T 2) = a2
  s4 : fr.get (T 4) = i

section
variable {call : CallF} {l : Nat} {a1 a2 i : Value} {fr : Fr} {s : M}
theorem chTest_some {v : Value} {b : Bool} (h : chTest v i = some b) : ∃ p n c m, v = .slice p n c ∧ i = .int .i64 m ∧ b = ltZ m (.ofNat n) := by
  cases v with
  | slice p n c =>
    simp only [chTest] at h
    split at h
    · rename_i m; cases h; exact ⟨p, n, c, m, rfl, rfl, rfl⟩
    · cases h
  | _ => simp only [chTest] at h; cases h
theorem ev_c1 (h : ItFr l a1 a2 i fr) {v : Value} {b : Bool} (h1 : load1 s a1 = some v) (h2 : chTest v i = some b) :
    ∃ fr1, ItFr l a1 a2 i fr1 ∧ ∀ k : KE, evC call c1 k fr s = k (bif b then Ex.normal else .exit 0) fr1 s := by
  obtain ⟨p, n, c, m, rfl, rfl, rfl⟩ := chTest_some h2
  refine ⟨(((fr.set (T 6) (.int .i64 m)).set (T 7) (.slice p n c)).set (T 8) (.int .i64 (.ofNat n))).set (T 9) (.bool (ltZ m (.ofNat n))), ⟨?_, ?_, ?_, ?_⟩, fun k => ?_⟩
  · simp [get_setT, h.s0]
  · simp [get_setT, h.s1]
  · simp [get_setT, h.s2]
  · simp [get_setT, h.s4]
  · unfold c1
    simp only [evC_seq, evC_region, evR_one, evR_nil, opK_mv, opK_rd, opK_p1, opK_p2, evs_cons, evs_nil, ev_t, putD_some, rLoad1_one]
    simp only [T, get_setT, h.s4, h.s1]
    simp [h1, kO_s, vLenS, bLt, onInts, beqK, seqK_normal, evC_cond, ev_t, get_setT, evC_skip, evC_exit]
    cases ltZ m (↑n : Int) <;> rfl

theorem ev_c2 (h : ItFr l a1 a2 i fr) {v i' : Value} (h1 : load1 s a2 = some v) (h2 : bAdd i v = some i') :
    ∃ fr1, ItFr l a1 a2 i' fr1 ∧ ∀ k : KE, evC call c2 k fr s = k .normal fr1 s := by
  refine ⟨(((fr.set (T 10) i).set (T 11) v).set (T 12) i').set (T 4) i', ⟨?_, ?_, ?_, ?_⟩, fun k => ?_⟩
  · simp [get_setT, h.s0]
  · simp [get_setT, h.s1]
  · simp [get_setT, h.s2]
  · simp [get_setT]
  · unfold c2
    simp only [evC_region, evR_one, evR_nil, opK_mv, opK_rd, opK_p1, opK_p2, evs_cons, evs_nil, ev_t, putD_some, rLoad1_one]
    simp only [T, get_setT, h.s4, h.s2]
    simp [h1, h2, kO_s, get_setT]

theorem chCut_some {sz : Nat} {v n c : Value} (h3 : chCut sz v n i = some c) : ∃ t q e j, vSlice true false false sz [v, i] = some t ∧ vLenS t = some q ∧ vMin false [n, q] = some e ∧ bAdd i e = some j ∧ vSlice true true true sz [v, i, j, j] = some c := by
  unfold chCut at h3
  split at h3
  · rename_i t ht
    split at h3
    · rename_i q hq
      split at h3
      · rename_i e he
        split at h3
        · rename_i j hj; exact ⟨t, q, e, j, ht, hq, he, hj, h3⟩
        · cases h3
      · cases h3
    · cases h3
  · cases h3
theorem ev_c34 (h : ItFr l a1 a2 i fr) {sz : Nat} {v n c : Value} (h1 : load1 s a1 = some v) (h2 : load1 s a2 = some n) (h3 : chCut sz v n i = some c) :
    ∃ fr3 fr4, (∀ k : KE, evC call (c3 sz) k fr s = k .normal fr3 s) ∧ (∀ k : Fr → M → Res, evR call k (c4 sz) fr3 s = k fr4 s) ∧ ItFr l a1 a2 i fr4 ∧ fr4.get (T 19) = .chan (some l) ∧ fr4.get (T 28) = c := by
  obtain ⟨t, q, e, j, ht, hq, he, hj, h3⟩ := chCut_some h3
  refine ⟨((((((fr.set (T 13) n).set (T 14) v).set (T 15) i).set (T 16) t).set (T 17) q).set (T 18) e).set (T 5) e,
    (((((((((((((((((fr.set (T 13) n).set (T 14) v).set (T 15) i).set (T 16) t).set (T 17) q).set (T 18) e).set (T 5) e).set (T 19) (.chan (some l))).set (T 20) v).set (T 21) i).set (T 22) i).set (T 23) e).set (T 24) j).set (T 25) i).set (T 26) e).set (T 27) j).set (T 28) c),
    fun k => ?_, fun k => ?_, ⟨?_, ?_, ?_, ?_⟩, ?_, ?_⟩
  · unfold c3
    simp only [evC_draws, evD_one, evD_nil, opK_mv, opK_rd, opK_p1, opK_p2, opK_pn, evs_cons, evs_nil, ev_t, putD_some, rLoad1_one]
    simp only [T, get_setT, h.s4, h.s2, h.s1]
    simp [h1, h2, kO_s, get_setT, ht, hq, he, pairsOk_nil, h.s4, h.s2, h.s1]
  · unfold c4
    simp only [evR_one, evR_nil, opK_mv, opK_rd, opK_p1, opK_p2, opK_pn, evs_cons, evs_nil, ev_t, putD_some, rLoad1_one]
    simp [T, get_setT, h.s4, h.s2, h.s1, h.s0, h1, kO_s, hj, h3]
  · simp [get_setT, h.s0]
  · simp [get_setT, h.s1]
  · simp [get_setT, h.s2]
  · simp [get_setT, h.s4]
  · simp [get_setT]
  · simp [get_setT]
end
end Go.HM
