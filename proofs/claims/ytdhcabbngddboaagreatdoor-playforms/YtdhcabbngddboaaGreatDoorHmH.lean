import Derived.Test.YtdhcabbngddboaaGreatDoorHmG
set_option linter.unusedVariables false
set_option linter.unusedSimpArgs false
namespace Go.HM

/-! ### what is made anew -/
def ptrTo (id : Nat) : Value := .pointer (some ⟨id, 0, none⟩)
def capOf (c ex es : Nat) : Nat := Nat.add (Nat.mul (Nat.add (Nat.mul 2 c) ex) 256) es
theorem capOf_spec {c ex es : Nat} (h1 : ex < 2) (h2 : es < 256) : capOf c ex es / 512 = c ∧ capOf c ex es / 256 % 2 = ex ∧ capOf c ex es % 256 = es := by
  unfold capOf
  simp only [Nat.add_eq, Nat.mul_eq]
  omega

theorem OR_fresh {ρ : Rho} {b : Nat} {cs : List Value} {cc : Array Value} {e : TypeId} (h : VRs ρ cs cc.toList) : OR ρ ⟨b, 0, cc.size⟩ (.cells cs) (some (.cells cc e (0, 0))) := by
  have hl := h.length
  simp only [Array.length_toList] at hl
  refine ⟨cc, e, 0, 0, rfl, rfl, by simp only; omega, fun k v hk => ?_, .inl rfl⟩
  obtain ⟨v', h1, h2⟩ := h.get hk
  exact ⟨v', by simpa using h1, h2⟩
theorem VR_ptrTo {ρ : Rho} {id b tot : Nat} (h : ρ id = some (.live ⟨b, 0, tot⟩)) : VR ρ (ptrTo id) (.pointer (some ⟨b, 0, none⟩)) :=
  .ptr ⟨rfl, rfl, _, h, fun l e => by cases e; exact ⟨rfl, rfl⟩⟩
theorem VR_sliceTo {ρ : Rho} {id b tot n c ex es : Nat} (h : ρ id = some (.live ⟨b, 0, tot⟩)) (h1 : ex < 2) (h2 : es < 256) (hn : n ≤ c) (ht : c * es ≤ tot) :
    VR ρ (.slice (some ⟨id, 0, none⟩) n (capOf c ex es)) (.slice (some ⟨b, 0, none⟩) n c) := by
  obtain ⟨e1, e2, e3⟩ := capOf_spec (c := c) h1 h2
  refine .slice n ⟨rfl, rfl, ⟨by omega, by omega⟩, fun _ => e1.symm, _, h, fun l e => ?_⟩
  cases e
  intro _
  exact ⟨rfl, rfl, by rw [e3]; simpa using ht⟩

def pushed (w : World) (c : Obj) : World := { w with heap := w.heap.push c }
theorem pushed_ok (w : World) (c : Obj) : AllocW w c (pushed w c) := ⟨rfl, rfl, rfl, rfl⟩

section
variable {P : Program} {o : Oper}
def aNew (zero : List Value) : AL := fun _ => some (.cells zero, ptrTo)
theorem new_ok {t : TypeId} {ti : TypeInfo} {z : Value} (ho : o.op = .alloc t) (ht : P.info? t = some ti) (hz : ti.zero = some z) (hp : ∀ ρ, VRs ρ z.cells.toList z.cells.toList) : AllocOK P o (aNew z.cells.toList) := by
  intro ρ w e l ho' mk hl hv
  cases hv
  refine ⟨.cells z.cells t, pushed w (.cells z.cells t), .pointer (some ⟨w.heap.size, 0, none⟩), z.cells.size, ?_, pushed_ok _ _, fun id ρ' hle hid => ⟨OR_fresh (hp ρ'), VR_ptrTo hid⟩⟩
  unfold execOp; rw [ho]
  simp [Instr.alloc, run_zero ht hz, newVar, newRow]
  rfl
def aBox : AL | [v] => some (.cells (cellsOfV v), ptrTo) | _ => none
theorem box_ok {t : TypeId} {x : Operand} (ho : o.op = .box t x) : AllocOK P o aBox := by
  intro ρ w e l ho' mk hl hv
  have hl' : VRs ρ l [e x] := by simpa [Op.operands, ho] using hl
  obtain ⟨a, rfl, hx⟩ := hl'.one
  cases hv
  refine ⟨.cells (e x).cells t, pushed w (.cells (e x).cells t), .pointer (some ⟨w.heap.size, 0, none⟩), (e x).cells.size, ?_, pushed_ok _ _, fun id ρ' hle hid => ⟨OR_fresh (hx.mono hle).cells, VR_ptrTo hid⟩⟩
  unfold execOp; rw [ho]
  simp [Instr.box, newVar, newRow]
  rfl

def zerosOf (zl : List Value) (n : Nat) : List Value :=
  match zl with
  | [z] => List.replicate n z
  | _ => (List.range n).map fun i => zl.getD (i % zl.length) undefV
theorem zerosOf_eq (zc : Array Value) (n : Nat) (h : n = 0 ∨ zc.size ≠ 0) : ((Array.range n).map fun i => zc[i % zc.size]!).toList = zerosOf zc.toList n := by
  have key : ((Array.range n).map fun i => zc[i % zc.size]!).toList = (List.range n).map fun i => zc.toList.getD (i % zc.toList.length) undefV := by
    rw [Array.toList_map, Array.toList_range]
    apply List.map_congr_left
    intro i hi
    rcases h with h | h
    · subst h; simp at hi
    · have hlt : i % zc.size < zc.size := Nat.mod_lt _ (by omega)
      simp only [Array.length_toList]
      rw [getElem!_pos zc _ hlt, List.getD_eq_getElem?_getD]
      simp [hlt]
  rw [key]
  unfold zerosOf
  split
  · rename_i z hz
    rw [hz]
    apply List.ext_getElem?
    intro i
    by_cases hi : i < n
    · simp [hi, Nat.mod_one]
    · simp [hi]
  · rfl
theorem zerosOf_plain {zl : List Value} {n : Nat} (hp : ∀ ρ, VRs ρ zl zl) (h : n = 0 ∨ zl ≠ []) : ∀ ρ, VRs ρ (zerosOf zl n) (zerosOf zl n) := by
  intro ρ
  have hg : ∀ k : Nat, k < zl.length → VR ρ (zl.getD k undefV) (zl.getD k undefV) := by
    intro k hk
    have : zl[k]? = some (zl.getD k undefV) := by simp [List.getD_eq_getElem?_getD, hk]
    obtain ⟨v', h1, h2⟩ := (hp ρ).get this
    rw [this] at h1; cases h1; exact h2
  refine VRs.of_get rfl fun k v v' hk hk' => ?_
  rw [hk] at hk'; cases hk'
  unfold zerosOf at hk
  split at hk
  · rename_i z
    have h0 := hg 0 (by simp)
    simp only [List.getElem?_replicate] at hk
    split at hk
    · cases hk; simpa using h0
    · cases hk
  · simp only [List.getElem?_map] at hk
    cases hr : (List.range n)[k]? with
    | none => rw [hr] at hk; simp at hk
    | some i =>
      rw [hr] at hk
      simp only [Option.map_some, Option.some.injEq] at hk
      subst hk
      have hk' : k < n := by
        rw [List.getElem?_eq_some_iff] at hr
        obtain ⟨h1, _⟩ := hr
        simpa using h1
      rcases h with h | h
      · omega
      · exact hg _ (Nat.mod_lt _ (List.length_pos_iff.2 h))

noncomputable def aBSlice (zeros : List Value) (len es : Nat) (ps : List (Nat × Nat)) : AL := fun vs =>
  match fillL zeros ps vs with
  | some c => some (.cells c, fun id => .slice (some ⟨id, 0, none⟩) len (capOf len 1 es))
  | none => none
theorem fill_size {place : Nat → Option (Nat × Nat)} : ∀ (parts : List (Nat × Value)) (c r : Array Value), Instr.fill place c parts = some r → r.size = c.size := by
  intro parts
  induction parts with
  | nil => intro c r h; simp [Instr.fill] at h; rw [h]
  | cons p parts ih =>
    intro c r h
    obtain ⟨i, v⟩ := p
    simp only [Instr.fill] at h
    split at h
    · cases h
    · rename_i off size hp
      split at h
      · cases h
      · rename_i hn
        have h2 := ih _ _ h
        rw [h2]
        simp only [Bool.or_eq_true, bne_iff_ne, decide_eq_true_eq, ne_eq, not_or] at hn
        have hz : v.cells.zipIdx.foldl (fun cs (p : Value × Nat) => cs.setIfInBounds (off + p.2) p.1) c = (v.cells.toList.zipIdx 0).foldl (fun cs (p : Value × Nat) => cs.setIfInBounds (off + p.2) p.1) c := by
          rw [← Array.foldl_toList, Array.toList_zipIdx]
        exact (congrArg Array.size hz).trans (foldl_set off v.cells.toList 0 c (by simp; omega)).2.1
theorem bslice_ok {t el : TypeId} {len : Nat} {parts : Array (Nat × Operand)} {ti : TypeInfo} {z : Value} {ps : List (Nat × Nat)} (ho : o.op = .buildSlice t len parts) (hd : P.underlying t = some (.slice el)) (ht : P.info? el = some ti) (hz : ti.zero = some z)
    (hsz : z.cells.size = ti.size) (hes : ti.size < 256) (hm : len * ti.size ≤ 2 ^ 24) (hps : parts.toList.map (fun p => some (p.1 * ti.size, ti.size)) = ps.map some) (hp : ∀ ρ, VRs ρ z.cells.toList z.cells.toList) :
    AllocOK P o (aBSlice (zerosOf z.cells.toList (len * ti.size)) len ti.size ps) := by
  intro ρ w e l ho' mk hl hv
  have hl' : VRs ρ l ((parts.toList.map (·.2)).map e) := by simpa [Op.operands, ho] using hl
  simp only [aBSlice] at hv
  split at hv
  · rename_i c hc
    cases hv
    have hn : len * ti.size = 0 ∨ z.cells.size ≠ 0 := by
      by_cases h : len * ti.size = 0
      · exact .inl h
      · right; rw [hsz]; intro h0; rw [h0] at h; simp at h
    have hn' : len * ti.size = 0 ∨ z.cells.toList ≠ [] := by
      rcases hn with h | h
      · exact .inl h
      · right; intro h0; apply h; rw [← Array.length_toList, h0]; rfl
    -- the model's zero cells
    let Z : Array Value := if len * ti.size = 0 then #[] else z.cells
    have hZ : (((Array.range (len * ti.size)).map fun i => Z[i % Z.size]!)).toList = zerosOf z.cells.toList (len * ti.size) := by
      by_cases h : len * ti.size = 0
      · simp only [Z, h, if_true]
        simp [zerosOf]
        split <;> simp
      · simp only [Z, h, if_false]
        exact zerosOf_eq _ _ hn
    have hcell : ∀ ρ' , ρ.le ρ' → ∃ rr, Instr.fill (fun i => some (i * ti.size, ti.size)) ((Array.range (len * ti.size)).map fun i => Z[i % Z.size]!) (parts.toList.map fun (p : Nat × Operand) => (p.1, e p.2)) = some rr ∧ VRs ρ' c rr.toList := by
      intro ρ' hle
      refine fill_ok (place := fun i => some (i * ti.size, ti.size)) _ ps l (zerosOf z.cells.toList (len * ti.size)) _ c (by rw [hZ]; exact zerosOf_plain hp hn' ρ') (by rw [List.map_map]; exact hps) (by rw [zipmap]; exact hl'.mono hle) hc
    obtain ⟨rr, h1, h2⟩ := hcell ρ ρ.le_refl
    have hrs : rr.size = len * ti.size := by
      rw [fill_size _ _ _ h1]; simp
    refine ⟨.cells rr el, pushed w (.cells rr el), .slice (some ⟨w.heap.size, 0, none⟩) len len, rr.size, ?_, pushed_ok _ _, fun id ρ' hle hid => ⟨OR_fresh (h2.mono hle), VR_sliceTo hid (by omega) hes (Nat.le_refl _) (by omega)⟩⟩
    unfold execOp; rw [ho]
    have hm' : (parts.map fun (i, x) => (i, e x)).toList = parts.toList.map fun (p : Nat × Operand) => (p.1, e p.2) := by simp
    have hgt : ¬ (len * ti.size > 2 ^ 24) := by omega
    by_cases h : len * ti.size = 0
    · have hZe : Z = #[] := if_pos h
      rw [hZe, h] at h1
      have hgt0 : ¬ (0 > 2 ^ 24) := by omega
      simp only [Instr.buildSlice, Sem.run_bind, run_und hd, Result.andThen_ok, run_szOf ht, h, hgt0, if_false, if_true, Sem.run_pure, hm', h1]
      rfl
    · have hZe : Z = z.cells := if_neg h
      rw [hZe] at h1
      simp only [Instr.buildSlice, Sem.run_bind, run_und hd, Result.andThen_ok, run_szOf ht, hgt, if_false, h, run_zero ht hz, Sem.run_pure, hm', h1]
      rfl
  · cases hv
def aMSlice (zl : List Value) (es bytes : Nat) : AL
  | [.int _ (.ofNat l), .int _ (.ofNat c)] => bif Nat.ble l c && (Nat.ble c 1000000 && Nat.ble (bytes * c) 1000000000) then
      some (.cells (zerosOf zl (c * es)), fun id => .slice (some ⟨id, 0, none⟩) l (capOf c 1 es)) else none
  | _ => none
theorem mslice_ok {t el : TypeId} {x y : Operand} {ti : TypeInfo} {z : Value} (ho : o.op = .makeSlice t x y) (hd : P.underlying t = some (.slice el)) (ht : P.info? el = some ti) (hz : ti.zero = some z) (hsz : z.cells.size = ti.size) (hes : ti.size < 256)
    (hp : ∀ ρ, VRs ρ z.cells.toList z.cells.toList) : AllocOK P o (aMSlice z.cells.toList ti.size ti.bytes) := by
  intro ρ w e l ho' mk hl hv
  have hl' : VRs ρ l [e x, e y] := by simpa [Op.operands, ho] using hl
  obtain ⟨a, b, rfl, hx, hy⟩ := hl'.two
  simp only [aMSlice] at hv
  split at hv
  · rename_i k ln k' c heq
    simp only [List.cons.injEq, and_true] at heq
    obtain ⟨rfl, rfl⟩ := heq
    cases hb : (Nat.ble ln c && (Nat.ble c 1000000 && Nat.ble (ti.bytes * c) 1000000000)) with
    | false => rw [hb] at hv; simp at hv
    | true =>
      rw [hb] at hv
      simp only [Bool.and_eq_true] at hb
      have q1 : ln ≤ c := Nat.le_of_ble_eq_true hb.1
      have q2 : c ≤ 1000000 := Nat.le_of_ble_eq_true hb.2.1
      have q3 : ti.bytes * c ≤ 1000000000 := Nat.le_of_ble_eq_true hb.2.2
      cases hv
      generalize hxe : e x = ex at hx
      generalize hye : e y = ey at hy
      cases hx; cases hy
      have hn : c * ti.size = 0 ∨ z.cells.size ≠ 0 := by
        by_cases h : c * ti.size = 0
        · exact .inl h
        · right; rw [hsz]; intro h0; rw [h0] at h; simp at h
      have hn' : c * ti.size = 0 ∨ z.cells.toList ≠ [] := by
        rcases hn with h | h
        · exact .inl h
        · right; intro h0; apply h; rw [← Array.length_toList, h0]; rfl
      let Z : Array Value := if c * ti.size = 0 then #[] else z.cells
      have hZ : (((Array.range (c * ti.size)).map fun i => Z[i % Z.size]!)).toList = zerosOf z.cells.toList (c * ti.size) := by
        by_cases h : c * ti.size = 0
        · simp only [Z, h, if_true]
          simp [zerosOf]
          split <;> simp
        · simp only [Z, h, if_false]
          exact zerosOf_eq _ _ hn
      refine ⟨.cells ((Array.range (c * ti.size)).map fun i => Z[i % Z.size]!) el, pushed w (.cells ((Array.range (c * ti.size)).map fun i => Z[i % Z.size]!) el), .slice (some ⟨w.heap.size, 0, none⟩) ln c, ((Array.range (c * ti.size)).map fun i => Z[i % Z.size]!).size, ?_, pushed_ok _ _,
        fun id ρ' hle hid => ⟨OR_fresh (by rw [hZ]; exact zerosOf_plain hp hn' ρ'), VR_sliceTo hid (by omega) hes q1 (by simp)⟩⟩
      unfold execOp; rw [ho]
      have w1 : IntKind.i64.wrap (Int.ofNat ln) = (ln : Int) := IntWalk.i64_in (ln : Int) ⟨by omega, by omega⟩
      have w2 : IntKind.i64.wrap (Int.ofNat c) = (c : Int) := IntWalk.i64_in (c : Int) ⟨by omega, by omega⟩
      have hbig : ((ti.bytes : Int) * (c : Int)) ≤ 1000000000 := by rw [← Int.natCast_mul]; omega
      have h1 : (decide ((c : Int) < 0) || decide ((ti.bytes : Int) * (c : Int) > 2 ^ 48)) = false := by
        rw [Bool.or_eq_false_iff, decide_eq_false_iff_not, decide_eq_false_iff_not]
        exact ⟨by omega, by omega⟩
      have h2 : ¬ ((ln : Int) < 0) := by omega
      have h3 : ¬ ((ln : Int) > (c : Int)) := by omega
      by_cases h : c * ti.size = 0
      · have hZe : Z = #[] := if_pos h
        rw [hZe]
        simp only [Instr.makeSlice, Sem.run_bind, run_und hd, Result.andThen_ok, hxe, hye, asInt, asIntOf, Sem.run_pure, run_tinfo ht, w1, w2, h1, h2, h3, Bool.false_or, Bool.or_false, decide_false, if_false, run_askRoom,
          Int.toNat_natCast, run_szOf ht, h, if_true, Bool.false_eq_true]
        rfl
      · have hZe : Z = z.cells := if_neg h
        rw [hZe]
        simp only [Instr.makeSlice, Sem.run_bind, run_und hd, Result.andThen_ok, hxe, hye, asInt, asIntOf, Sem.run_pure, run_tinfo ht, w1, w2, h1, h2, h3, Bool.false_or, Bool.or_false, decide_false, if_false, run_askRoom,
          Int.toNat_natCast, run_szOf ht, h, run_zero ht hz, Bool.false_eq_true]
        rfl
  · cases hv
def aMap : AL := fun _ => some (.map [], fun id => .map (some id))
theorem makeMap_ok {t : TypeId} (ho : o.op = .makeMap t none) : AllocOK P o aMap := by
  intro ρ w e l ho' mk hl hv
  cases hv
  refine ⟨.map #[] 0, pushed w (.map #[] 0), .map (some w.heap.size), 0, ?_, pushed_ok _ _, fun id ρ' hle hid => ⟨⟨#[], 0, rfl, rfl, by simp⟩, .map ⟨_, hid, fun l e => by cases e; rfl⟩⟩⟩
  unfold execOp; rw [ho]
  simp [Instr.makeMap]
  rfl
def aIter : AL | [.string s] => some (.iter s 0, ptrTo) | _ => none
theorem range_ok {t : TypeId} {x : Operand} (ho : o.op = .range t x) (hd : P.underlying t = some .string) : AllocOK P o aIter := by
  intro ρ w e l ho' mk hl hv
  have hl' : VRs ρ l [e x] := by simpa [Op.operands, ho] using hl
  obtain ⟨a, rfl, hx⟩ := hl'.one
  simp only [aIter] at hv
  split at hv
  · rename_i s heq
    simp only [List.cons.injEq, and_true] at heq
    subst heq
    cases hv
    generalize hxe : e x = ex at hx
    cases hx
    refine ⟨.stringIter s 0, pushed w (.stringIter s 0), .pointer (some ⟨w.heap.size, 0, none⟩), 0, ?_, pushed_ok _ _, fun id ρ' hle hid => ⟨⟨rfl, rfl⟩, VR_ptrTo hid⟩⟩
    unfold execOp; rw [ho]
    simp [Instr.range, run_und hd, hxe]
    rfl
  · cases hv
end
end Go.HM
