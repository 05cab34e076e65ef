import Derived.Test.YtdhcabbngddboaaGreatDoorHmQ
import Derived.Test.YtdhcabbngddboaaGreatDoorHmE2
import Derived.Test.YtdhcabbngddboaaGreatDoorHmZ
set_option linter.unusedVariables false
set_option linter.unusedSimpArgs false
namespace Go.HM

/-! ### the making -/
def optAll {α : Type} : List (Option α) → Option (List α)
  | [] => some []
  | some a :: r => match optAll r with | some l => some (a :: l) | none => none
  | none :: _ => none
theorem optAll_spec {α : Type} : ∀ {l : List (Option α)} {r : List α}, optAll l = some r → l = r.map some := by
  intro l
  induction l with
  | nil => intro r h; simp only [optAll] at h; cases h; rfl
  | cons a l ih =>
    intro r h
    cases a with
    | none => simp [optAll] at h
    | some a =>
      simp only [optAll] at h
      split at h
      · rename_i r' hr
        cases h
        simp [ih hr]
      · cases h

section
variable (P : Program) (R G N : Nat)

def zeroP (t : Nat) : Option (List Value × Nat × Nat) :=
  match P.info? t with
  | some ti => match ti.zero with
    | some z => bif plains 2000 z.cells.toList && Nat.beq z.cells.size ti.size then some (z.cells.toList, ti.size, ti.bytes) else none
    | none => none
  | none => none
theorem zeroP_spec {P : Program} {t : Nat} {zl : List Value} {sz by' : Nat} (h : zeroP P t = some (zl, sz, by')) :
    ∃ ti z, P.info? t = some ti ∧ ti.zero = some z ∧ zl = z.cells.toList ∧ sz = ti.size ∧ by' = ti.bytes ∧ z.cells.size = ti.size ∧ ∀ ρ, VRs ρ z.cells.toList z.cells.toList := by
  unfold zeroP at h
  split at h
  · rename_i ti hti
    split at h
    · rename_i z hz
      cases hb : (plains 2000 z.cells.toList && Nat.beq z.cells.size ti.size) with
      | false => rw [hb] at h; simp at h
      | true =>
        rw [hb] at h
        simp only [Bool.and_eq_true] at hb
        cases h
        exact ⟨ti, z, hti, hz, rfl, rfl, rfl, Nat.eq_of_beq_eq_true hb.2, plains_VR _ _ hb.1⟩
    · cases h
  · cases h

def ltAll (n : Nat) : List (Nat × EqK) → Bool
  | [] => true
  | k :: ks => Nat.blt k.1 n && ltAll n ks
theorem ltAll_spec {n : Nat} : ∀ {ks : List (Nat × EqK)}, ltAll n ks = true → ∀ k ∈ ks, k.1 < n := by
  intro ks
  induction ks with
  | nil => intro _ k h; cases h
  | cons x ks ih =>
    intro h k hk
    simp only [ltAll, Bool.and_eq_true] at h
    rcases List.mem_cons.1 hk with e | e
    · subst e; exact Nat.le_of_ble_eq_true h.1
    · exact ih h.2 k e
/-- the fields of a struct, made flat; rec: how a struct within is made flat -/
noncomputable def fldK1 (rec : List Field → Option (List (Nat × EqK))) : List Field → Option (List (Nat × EqK))
  | [] => some []
  | f :: fs => bif f.name == "_" then none else match P.underlying f.type, fldK1 rec fs with
    | some (.struct fs'), some ks => (match P.info? f.type, rec fs'.toList with
      | some ti, some ks' => bif ltAll ti.size ks' && !P.stoodInHeld f.type then some (ks'.map (fun k => (f.offset + k.1, k.2)) ++ ks) else none
      | _, _ => none)
    | some d, some ks => (match eqKOf d with | some q => some ((f.offset, q) :: ks) | none => none)
    | _, _ => none
noncomputable def fldKs : Nat → List Field → Option (List (Nat × EqK))
  | 0 => fldK1 P (fun _ => none)
  | n + 1 => fldK1 P (fldKs n)
theorem fldK1_ok {P : Program} {D : Nat} {rec : List Field → Option (List (Nat × EqK))} (hrec : ∀ fs ks, rec fs = some ks → ∃ D', D = D' + 1 ∧ FldK P D' fs ks) : ∀ {fs : List Field} {ks : List (Nat × EqK)}, fldK1 P rec fs = some ks → FldK P D fs ks := by
  intro fs
  induction fs with
  | nil => intro ks h; simp only [fldK1] at h; cases h; exact .nil
  | cons f fs ih =>
    intro ks h
    simp only [fldK1] at h
    cases hn : (f.name == "_") with
    | true => rw [hn] at h; cases h
    | false =>
      rw [hn] at h
      have hn' : f.name ≠ "_" := by simpa using hn
      simp only [cond_false] at h
      split at h
      · rename_i fs' ks2 hd hks
        split at h
        · rename_i ti ks' hti hks'
          cases hb : (ltAll ti.size ks' && !P.stoodInHeld f.type) with
          | false => rw [hb] at h; cases h
          | true =>
            rw [hb] at h
            simp only [Bool.and_eq_true, Bool.not_eq_true'] at hb
            cases h
            obtain ⟨D', rfl, hr⟩ := hrec _ _ hks'
            exact .consS hn' hd hb.2 hti hr (ltAll_spec hb.1) (ih hks)
        · cases h
      · rename_i d ks2 hns hd hks
        split at h
        · rename_i q hq; cases h; exact .cons hn' hd hq (ih hks)
        · cases h
      · cases h
theorem fldKs_ok {P : Program} : ∀ {n : Nat} {fs : List Field} {ks : List (Nat × EqK)}, fldKs P n fs = some ks → FldK P n fs ks := by
  intro n
  induction n with
  | zero => intro fs ks h; exact fldK1_ok (fun _ _ h => by cases h) h
  | succ n ih => intro fs ks h; exact fldK1_ok (fun fs ks h => ⟨n, rfl, ih h⟩) h

noncomputable def cBin (op : BinOp) (t : Nat) (c : Bool) : Option F2 :=
  match op with
  | .add => (match P.underlying t with | some .string => some bCat | some _ => some bAdd | none => none)
  | .sub => some bSub | .mul => some bMul | .quo => some bQuo | .rem => some bRem
  | .and => some bAnd | .or => some bOr | .xor => some bXor | .shl => some bShl | .shr => some bShr
  | .lss => (match P.underlying t with | some .string => some bSLt | some _ => some bLt | none => none)
  | .gtr => some bGt | .leq => some bLe | .geq => some bGe
  | .eql | .neq => (match P.underlying t with
    | some (.interface _) => some (bEqI c (op == .neq))
    | some (.func _ _ _) => some (bEqF (op == .neq))
    | some (.struct fs) => bif P.stoodInHeld t || P.eqGuardType P.depth t then none else (match fldKs P 3 fs.toList with | some ks => some (bEqS ks (op == .neq)) | none => none)
    | some d => (match eqKOf d with | some q => some (bEqK q (op == .neq)) | none => none)
    | none => none)
  | .andNot => none
theorem cBin_ok {P : Program} {o : Oper} {op : BinOp} {t : TypeId} {x y : Operand} {yt : TypeId} {f : F2} (ho : o.op = .binOp op t x y yt) (h : cBin P op t (isC x || isC y) = some f) : PureOK P o (f2 f) := by
  unfold cBin at h
  have eqs : ∀ (hop : op = .eql ∨ op = .neq), (match P.underlying t with
    | some (.interface _) => some (bEqI (isC x || isC y) (op == .neq))
    | some (.func _ _ _) => some (bEqF (op == .neq))
    | some (.struct fs) => bif P.stoodInHeld t || P.eqGuardType P.depth t then none else (match fldKs P 3 fs.toList with | some ks => some (bEqS ks (op == .neq)) | none => none)
    | some d => (match eqKOf d with | some q => some (bEqK q (op == .neq)) | none => none)
    | none => none) = some f → PureOK P o (f2 f) := by
    intro hop h
    split at h
    · rename_i ms hd
      cases h; exact bEqI_ok hop ho hd
    · rename_i a b c hd
      cases h; exact bEqF_ok hop ho hd
    · rename_i fs hd
      cases hb : (P.stoodInHeld t || P.eqGuardType P.depth t) with
      | true => rw [hb] at h; cases h
      | false =>
        rw [hb] at h
        simp only [Bool.or_eq_false_iff] at hb
        simp only [cond_false] at h
        split at h
        · rename_i ks hk; cases h; exact bEqS_ok hop ho hd hb.1 hb.2 (fldKs_ok hk)
        · cases h
    · rename_i d h1 h2 h3 hd
      split at h
      · rename_i q hq; cases h; exact bEqK_ok hop ho hd hq
      · cases h
    · cases h
  cases op <;> simp only at h
  case add =>
    split at h
    · cases h; exact bCat_ok ho
    · cases h; exact bAdd_ok ho
    · cases h
  case sub => cases h; exact bSub_ok ho
  case mul => cases h; exact bMul_ok ho
  case quo => cases h; exact bQuo_ok ho
  case rem => cases h; exact bRem_ok ho
  case and => cases h; exact bAnd_ok ho
  case or => cases h; exact bOr_ok ho
  case xor => cases h; exact bXor_ok ho
  case shl => cases h; exact bShl_ok ho
  case shr => cases h; exact bShr_ok ho
  case andNot => cases h
  case eql => exact eqs (.inl rfl) h
  case neq => exact eqs (.inr rfl) h
  case lss =>
    split at h
    · cases h; exact bSLt_ok ho
    · cases h; exact bLt_ok ho
    · cases h
  case leq => cases h; exact bLe_ok ho
  case gtr => cases h; exact bGt_ok ho
  case geq => cases h; exact bGe_ok ho

noncomputable def cConv (s t : Nat) (x : Opd) : Option HOp :=
  match P.underlying s, P.underlying t with
  | some (.int _), some (.int k) => some (.p1 (vConv k) x)
  | some .string, some .string => some (.p1 vStr x)
  | some (.slice el), some .string => (match P.underlying el with | some (.int .u8) => some (.rd rStr [x]) | _ => none)
  | some (.slice el), some (.slice _) => bif Nat.beq s t then (match P.underlying el with | some (.int .u8) => some (.ef (eMark R) [x]) | _ => none) else none
  | _, _ => none
noncomputable def cBuiltin (b : Builtin) (ats : List Nat) (xs : List Opd) : Option HOp :=
  match b, ats, xs with
  | .len, t :: _, [x] => (match P.underlying t with | some (.slice _) => some (.p1 vLenS x) | some .string => some (.p1 vLenT x) | _ => none)
  | .cap, t :: _, [x] => (match P.underlying t with | some (.slice _) => some (.p1 vCap x) | _ => none)
  | .append, [t, u], [x, y] => (match P.underlying t, P.underlying u with
    | some (.slice el), some (.int _) => (match zeroP P el with | some (zl, sz, by') => bif Nat.blt sz 256 && (Nat.blt 0 sz && Nat.ble by' 100000) then some (.ef (eAppZ R sz zl) [x, y]) else none | none => none)
    | some (.slice el), some _ => (match zeroP P el with | some (_, sz, by') => bif Nat.blt sz 256 && (Nat.blt 0 sz && Nat.ble by' 100000) then some (.ef (eApp R sz) [x, y]) else none | none => none)
    | _, _ => none)
  | .copy, t :: _, [x, y] => (match P.underlying t with | some (.slice el) => (match P.info? el with | some ti => some (.ef (eCopy R ti.size) [x, y]) | none => none) | _ => none)
  | .clear, t :: _, [x] => (match P.underlying t with | some (.slice el) => (match zeroP P el with | some (zl, sz, _) => bif Nat.blt 0 sz then some (.ef (eClear R sz zl) [x]) else none | none => none) | _ => none)
  | .min, _, xs => some (.pn (vMin false) xs)
  | .max, _, xs => some (.pn (vMin true) xs)
  | _, _, _ => none
def isEqI (op : BinOp) (t : Nat) : Bool :=
  match op, P.underlying t with
  | .eql, some (.interface _) => true
  | .neq, some (.interface _) => true
  | _, _ => false
noncomputable def cLook (t : Nat) (ok : Bool) (xs : List Opd) : Option HOp :=
  match P.underlying t with
  | some (.map kt el) => (match P.underlying kt, P.info? el with
    | some d, some ti => (match keyOf d, ti.zero with
      | some q, some z => bif plain 2000 z then some (.rd (rLook q z ok) xs) else none
      | _, _ => none)
    | _, _ => none)
  | _ => none
noncomputable def cMapUpd (t : Nat) (xs : List Opd) : Option HOp :=
  match P.underlying t with
  | some (.map kt _) => (match P.underlying kt with
    | some d => (match keyOf d with | some q => some (.ef (eMapUpd R q) xs) | none => none)
    | none => none)
  | _ => none
noncomputable def cField (t i : Nat) (x : Opd) : Option HOp :=
  match P.underlying t with
  | some (.struct fs) => (match fs[i]? with
    | some f => (match P.underlying f.type with
      | some d => bif isAggB d then none else some (.p1 (vField1 f.offset) x)
      | none => none)
    | none => none)
  | _ => none
def plOf (fs : List Field) : Option (List (Nat × Nat)) := optAll (fs.map fun f => (P.info? f.type).map fun j => (f.offset, j.size))
noncomputable def cOp1 (o : Op) (xs : List Opd) : Option HOp :=
  match o, xs with
  | .move _, [x] => some (.mv x)
  | .assign _, [x] => some (.mv x)
  | .pick _ _ _, xs => some (.pn vPick xs)
  | .alloc t, xs => (match zeroP P t with | some (zl, _, _) => some (.al (aNew zl) xs) | none => none)
  | .box _ _, xs => some (.al aBox xs)
  | .build t parts, xs => (match P.underlying t, zeroP P t with
    | some (.struct fs), some (zl, _, _) => (match plOf P fs.toList with
      | some pl => (match optAll (parts.toList.map fun p => pl[p.1]?) with | some ps => some (.pn (vBuild zl ps) xs) | none => none)
      | none => none)
    | _, _ => none)
  | .buildSlice t len parts, xs => (match P.underlying t with
    | some (.slice el) => (match zeroP P el with
      | some (zl, sz, _) => bif Nat.blt sz 256 && Nat.ble (len * sz) 65536 then some (.al (aBSlice (zerosOf zl (len * sz)) len sz (parts.toList.map fun p => (p.1 * sz, sz))) xs) else none
      | none => none)
    | _ => none)
  | .load t _, xs => (match P.underlying t with
    | some d => (match isAggB d with
      | false => some (.rd rLoad1 xs)
      | true => (match P.info? t with | some ti => some (.rd (rLoadN ti.size) xs) | none => none))
    | none => none)
  | .store t _ _, xs => (match P.info? t with | some ti => some (.ef (fun l m => match l with | [a, v] => (bif Nat.beq (cellsOfV v).length ti.size then eStore R [a, v] m else none) | _ => none) xs) | none => none)
  | .nilCheck _, [x] => some (.p1 vNil x)
  | .binOp op t x y _, [a, b] => bif !(isC x || isC y) && isEqI P op t then some (.rd (rEqI P false (op == .neq)) [a, b]) else (match cBin P op t (isC x || isC y) with | some f => some (.p2 f a b) | none => none)
  | .unOp .not _ _, [x] => some (.p1 vNot x)
  | .unOp .neg _ _, [x] => some (.p1 vNeg x)
  | .convert s t _, [x] => cConv P R s t x
  | .makeInterface t _, [x] => (match P.underlying t with | some (.interface _) => none | some _ => some (.p1 (vIface t) x) | none => none)
  | .makeFunc fn first _, xs => some (.pn (vFunc fn first.size) xs)
  | .makeMap _ none, xs => some (.al aMap xs)
  | .makeSlice t _ _, xs => (match P.underlying t with
    | some (.slice el) => (match zeroP P el with | some (zl, sz, by') => bif Nat.blt sz 256 then some (.al (aMSlice zl sz by') xs) else none | none => none)
    | _ => none)
  | .slice t _ lo hi mx, xs => (match P.underlying t with
    | some (.slice el) => (match P.info? el with | some ti => bif Nat.blt ti.size 256 then some (.pn (vSlice lo.isSome hi.isSome mx.isSome ti.size) xs) else none | none => none)
    | _ => none)
  | .fieldAddr t _ i, [x] => (match P.underlying t with
    | some (.struct fs) => (match fs[i]? with
      | some fd => (match P.info? fd.type with | some ti => bif Nat.beq ti.size 0 then none else some (.p1 (vFld fd.offset) x) | none => none)
      | none => none)
    | _ => none)
  | .indexAddr t _ _, [x, y] => (match P.underlying t with
    | some (.slice el) => (match P.info? el with | some ti => some (.p2 (vIdx ti.size) x y) | none => none)
    | _ => none)
  | .index t _ _, [x, y] => (match P.underlying t with | some .string => some (.p2 vIdxS x y) | _ => none)
  | .extract _ i, [x] => some (.p1 (vExt i) x)
  | .range t _, xs => (match P.underlying t with | some .string => some (.al aIter xs) | _ => none)
  | .next _ true, xs => some (.ef (eNext R) xs)
  | .call c, xs => (match c.callee with
    | .value _ => (match xs with | f :: r => some (.call f r) | [] => none)
    | .builtin b => cBuiltin P R b c.argTypes.toList xs
    | .invoke _ name => (match xs with | x :: r => some (.inv (methV P name) x r) | [] => none))
  | .typeAssert _ _ t true, [x] => (match P.underlying t, P.info? t with
    | some (.interface want), some j => (match j.zero with | some z => bif plain 100 z then some (.p1 (vTA P want z) x) else none | none => none)
    | _, _ => none)
  | .lookup t _ _ ok, xs => cLook P t ok xs
  | .mapUpdate t _ _ _, xs => cMapUpd P R t xs
  | .insert t _ _ _, xs => cMapUpd P R t xs
  | .field t _ i, [x] => cField P t i x
  | _, _ => none
noncomputable def cOp (o : Op) : Option HOp :=
  match cOpds G N o.operands.toList with
  | some xs => cOp1 P R o xs
  | none => none
end

theorem conv_okS {P : Program} {R G N : Nat} {o : Oper} {s t : Nat} {x : Operand} {y : Opd} {h : HOp} (ho : o.op = .convert s t x) (hx : cOpds G N o.op.operands.toList = some [y]) (hc : cConv P R s t y = some h) : OpOK P R G N o h := by
  unfold cConv at hc
  split at hc
  · rename_i k k' hs ht; cases hc; exact ⟨hx, conv_ok ho hs ht⟩
  · rename_i hs ht; cases hc; exact ⟨hx, convS_ok ho hs ht⟩
  · rename_i el hs ht
    split at hc
    · rename_i he; cases hc; exact ⟨hx, str_ok ho hs he ht⟩
    · cases hc
  · rename_i el el' hs ht
    cases hst : Nat.beq s t with
    | false => rw [hst] at hc; cases hc
    | true =>
      have := Nat.eq_of_beq_eq_true hst; subst this
      rw [hst] at hc
      simp only [cond_true] at hc
      split at hc
      · rename_i he; cases hc; exact ⟨hx, mark_ok ho hs he⟩
      · cases hc
  · cases hc

theorem builtin_okS {P : Program} {R G N : Nat} {o : Oper} {b : Builtin} {args : Array Operand} {ats : Array TypeId} {xs : List Opd} {h : HOp} (ho : o.op = .call { callee := .builtin b, args := args, argTypes := ats })
    (hx : cOpds G N o.op.operands.toList = some xs) (hc : cBuiltin P R b ats.toList xs = some h) : OpOK P R G N o h := by
  have hxl : ∀ {l : List Operand} {ys : List Opd}, cOpds G N l = some ys → l.length = ys.length := by
    intro l
    induction l with
    | nil => intro ys h; simp only [cOpds] at h; cases h; rfl
    | cons a l ih =>
      intro ys h
      simp only [cOpds] at h
      split at h
      · rename_i h1 h2; cases h; simp [ih h2]
      · cases h
  have hlen : args.toList.length = xs.length := by
    have := hxl hx
    rw [ho] at this
    simpa [Op.operands, Call.operands] using this
  have one : xs.length = 1 → ∃ x, args = #[x] := by
    intro h1
    obtain ⟨l⟩ := args
    simp only at hlen
    match l, hlen.trans h1 with
    | [x], _ => exact ⟨x, rfl⟩
  have two : xs.length = 2 → ∃ x y, args = #[x, y] := by
    intro h1
    obtain ⟨l⟩ := args
    simp only at hlen
    match l, hlen.trans h1 with
    | [x, y], _ => exact ⟨x, y, rfl⟩
  have fst : ∀ {t : Nat} {r : List Nat}, ats.toList = t :: r → ats[0]? = some t := by
    intro t r h
    rw [← Array.getElem?_toList, h]; rfl
  unfold cBuiltin at hc
  split at hc
  · rename_i t r x hats
    obtain ⟨x', rfl⟩ := one rfl
    split at hc
    · rename_i el hd; cases hc; exact ⟨hx, lenS_ok ho (fst hats) hd⟩
    · rename_i hd; cases hc; exact ⟨hx, lenT_ok ho (fst hats) hd⟩
    · cases hc
  · rename_i t r x hats
    obtain ⟨x', rfl⟩ := one rfl
    split at hc
    · rename_i el hd; cases hc; exact ⟨hx, cap_ok ho (fst hats) hd⟩
    · cases hc
  · rename_i t u x y hats
    obtain ⟨x', y', rfl⟩ := two rfl
    have hats' : ats = #[t, u] := by apply Array.ext'; exact hats
    subst hats'
    split at hc
    · rename_i el k hd hu
      split at hc
      · rename_i zl sz by' hz
        cases hb : (Nat.blt sz 256 && (Nat.blt 0 sz && Nat.ble by' 100000)) with
        | false => rw [hb] at hc; simp at hc
        | true =>
          rw [hb] at hc
          simp only [Bool.and_eq_true] at hb
          cases hc
          obtain ⟨ti, z, h1, h2, rfl, rfl, rfl, h3, h4⟩ := zeroP_spec hz
          exact ⟨hx, appendZ_ok ho hd hu h1 h2 h3 (Nat.lt_of_succ_le (Nat.le_of_ble_eq_true hb.1)) (Nat.lt_of_succ_le (Nat.le_of_ble_eq_true hb.2.1)) (Nat.le_of_ble_eq_true hb.2.2) h4⟩
      · cases hc
    · rename_i el d hni hd hu
      split at hc
      · rename_i zl sz by' hz
        cases hb : (Nat.blt sz 256 && (Nat.blt 0 sz && Nat.ble by' 100000)) with
        | false => rw [hb] at hc; simp at hc
        | true =>
          rw [hb] at hc
          simp only [Bool.and_eq_true] at hb
          cases hc
          obtain ⟨ti, z, h1, h2, rfl, rfl, rfl, h3, h4⟩ := zeroP_spec hz
          exact ⟨hx, append_ok trivial ho hd hu (fun k e => by subst e; simp_all) h1 h2 h3 (Nat.lt_of_succ_le (Nat.le_of_ble_eq_true hb.1)) (Nat.lt_of_succ_le (Nat.le_of_ble_eq_true hb.2.1)) (Nat.le_of_ble_eq_true hb.2.2)⟩
      · cases hc
    · cases hc
  · rename_i t r x y hats
    obtain ⟨x', y', rfl⟩ := two rfl
    split at hc
    · rename_i el hd
      split at hc
      · rename_i ti hti; cases hc; exact ⟨hx, copy_ok ho (fst hats) hd hti⟩
      · cases hc
    · cases hc
  · rename_i t r x hats
    obtain ⟨x', rfl⟩ := one rfl
    split at hc
    · rename_i el hd
      split at hc
      · rename_i zl sz by' hz
        cases hb : Nat.blt 0 sz with
        | false => rw [hb] at hc; simp at hc
        | true =>
          rw [hb] at hc
          cases hc
          obtain ⟨ti, z, h1, h2, rfl, rfl, rfl, h3, h4⟩ := zeroP_spec hz
          exact ⟨hx, clear_ok ho (fst hats) hd h1 h2 h3 (Nat.lt_of_succ_le (Nat.le_of_ble_eq_true hb)) h4⟩
      · cases hc
    · cases hc
  · cases hc; exact ⟨hx, min_ok (mx := false) ho⟩
  · cases hc; exact ⟨hx, min_ok (mx := true) ho⟩
  · cases hc

theorem plOf_spec {P : Program} {fs : Array Field} {pl : List (Nat × Nat)} (h : plOf P fs.toList = some pl) : fs.toList.map (fun f => (P.info? f.type).map fun j => (f.offset, j.size)) = (⟨pl⟩ : Array (Nat × Nat)).toList.map some := optAll_spec h

theorem cOp_ok {P : Program} {R G N : Nat} {o : Oper} {h : HOp} (hc : cOp P R G N o.op = some h) : OpOK P R G N o h := by
  unfold cOp at hc
  split at hc
  case h_2 => cases hc
  case h_1 xs hx =>
  unfold cOp1 at hc
  split at hc
  case h_1 x y ho => cases hc; exact ⟨hx, move_ok (.inl ho)⟩
  case h_2 x y ho => cases hc; exact ⟨hx, move_ok (.inr ho)⟩
  case h_3 a b c ho => cases hc; exact ⟨hx, pick_ok ho⟩
  case h_4 t ho =>
    split at hc
    · rename_i zl sz by' hz
      cases hc
      obtain ⟨ti, z, h1, h2, rfl, rfl, rfl, h3, h4⟩ := zeroP_spec hz
      exact ⟨hx, new_ok ho h1 h2 h4⟩
    · cases hc
  case h_5 t x ho => cases hc; exact ⟨hx, box_ok ho⟩
  case h_6 t parts ho =>
    split at hc
    · rename_i fs zl sz by' hd hz
      split at hc
      · rename_i pl hpl
        split at hc
        · rename_i ps hps
          cases hc
          obtain ⟨ti, z, h1, h2, rfl, rfl, rfl, h3, h4⟩ := zeroP_spec hz
          exact ⟨hx, build_ok (pl := ⟨pl⟩) ho hd h1 h2 (plOf_spec hpl) (by simpa using optAll_spec hps) h4⟩
        · cases hc
      · cases hc
    · cases hc
  case h_7 t len parts ho =>
    split at hc
    · rename_i el hd
      split at hc
      · rename_i zl sz by' hz
        cases hb : (Nat.blt sz 256 && Nat.ble (len * sz) 65536) with
        | false => rw [hb] at hc; simp at hc
        | true =>
          rw [hb] at hc
          simp only [Bool.and_eq_true] at hb
          cases hc
          obtain ⟨ti, z, h1, h2, rfl, rfl, rfl, h3, h4⟩ := zeroP_spec hz
          have hm : len * ti.size ≤ 65536 := Nat.le_of_ble_eq_true hb.2
          exact ⟨hx, bslice_ok ho hd h1 h2 h3 (Nat.lt_of_succ_le (Nat.le_of_ble_eq_true hb.1)) (by omega) (by simp) h4⟩
      · cases hc
    · cases hc
  case h_8 t x ho =>
    split at hc
    · rename_i d hd
      split at hc
      · rename_i ha; cases hc; exact ⟨hx, load1_ok ho hd ha⟩
      · rename_i ha
        split at hc
        · rename_i ti hti; cases hc; exact ⟨hx, loadN_ok ho hd ha hti⟩
        · cases hc
    · cases hc
  case h_9 t x y ho =>
    split at hc
    · rename_i ti hti; cases hc; exact ⟨hx, store_ok ho hti trivial⟩
    · cases hc
  case h_10 x y ho => cases hc; exact ⟨hx, nilCheck_ok ho⟩
  case h_11 op t x y yt a b ho =>
    cases hq : (!(isC x || isC y) && isEqI P op t) with
    | true =>
      rw [hq] at hc
      simp only [Bool.and_eq_true, Bool.not_eq_true'] at hq
      cases hc
      have hi := hq.2
      unfold isEqI at hi
      split at hi
      · rename_i ms hd
        have := eqI_ok (op := .eql) (.inl rfl) ho hd
        rw [hq.1] at this; exact ⟨hx, this⟩
      · rename_i ms hd
        have := eqI_ok (op := .neq) (.inr rfl) ho hd
        rw [hq.1] at this; exact ⟨hx, this⟩
      · cases hi
    | false =>
      rw [hq] at hc
      simp only [cond_false] at hc
      split at hc
      · rename_i f hf; cases hc; exact ⟨hx, cBin_ok ho hf⟩
      · cases hc
  case h_12 t x y ho => cases hc; exact ⟨hx, not_ok ho⟩
  case h_13 t x y ho => cases hc; exact ⟨hx, neg_ok ho⟩
  case h_14 s t x y ho => exact conv_okS ho hx hc
  case h_15 t x y ho =>
    split at hc
    · cases hc
    · rename_i d hn hd; cases hc; exact ⟨hx, iface_ok ho hd (fun ms e => by subst e; simp_all)⟩
    · cases hc
  case h_16 fn first cap ho => cases hc; exact ⟨hx, func_ok ho⟩
  case h_17 t ho => cases hc; exact ⟨hx, makeMap_ok ho⟩
  case h_18 t l c ho =>
    split at hc
    · rename_i el hd
      split at hc
      · rename_i zl sz by' hz
        cases hb : Nat.blt sz 256 with
        | false => rw [hb] at hc; simp at hc
        | true =>
          rw [hb] at hc
          cases hc
          obtain ⟨ti, z, h1, h2, rfl, rfl, rfl, h3, h4⟩ := zeroP_spec hz
          exact ⟨hx, mslice_ok ho hd h1 h2 h3 (Nat.lt_of_succ_le (Nat.le_of_ble_eq_true hb)) h4⟩
      · cases hc
    · cases hc
  case h_19 t x lo hi mx ho =>
    split at hc
    · rename_i el hd
      split at hc
      · rename_i ti hti
        cases hb : Nat.blt ti.size 256 with
        | false => rw [hb] at hc; simp at hc
        | true => rw [hb] at hc; cases hc; exact ⟨hx, slice_ok ho hd hti (Nat.lt_of_succ_le (Nat.le_of_ble_eq_true hb))⟩
      · cases hc
    · cases hc
  case h_20 t x i y ho =>
    split at hc
    · rename_i fs hd
      split at hc
      · rename_i fd hfd
        split at hc
        · rename_i ti hti
          cases hb : Nat.beq ti.size 0 with
          | true => rw [hb] at hc; simp at hc
          | false =>
            rw [hb] at hc; cases hc
            exact ⟨hx, fieldAddr_ok ho hd hfd hti (fun e => by rw [e] at hb; simp at hb)⟩
        · cases hc
      · cases hc
    · cases hc
  case h_21 t x i a b ho =>
    split at hc
    · rename_i el hd
      split at hc
      · rename_i ti hti; cases hc; exact ⟨hx, indexAddr_ok ho hd hti⟩
      · cases hc
    · cases hc
  case h_22 t x i a b ho =>
    split at hc
    · rename_i hd; cases hc; exact ⟨hx, index_ok ho hd⟩
    · cases hc
  case h_23 x i y ho => cases hc; exact ⟨hx, extract_ok ho⟩
  case h_24 t x ho =>
    split at hc
    · rename_i hd; cases hc; exact ⟨hx, range_ok ho hd⟩
    · cases hc
  case h_25 x ho => cases hc; exact ⟨hx, next_ok ho⟩
  case h_26 c ho =>
    obtain ⟨callee, args, ats⟩ := c
    cases callee with
    | value f =>
      simp only at hc
      split at hc
      · cases hc; exact ⟨hx, f, args, ats, ho⟩
      · cases hc
    | invoke r m =>
      simp only at hc
      split at hc
      · cases hc; exact ⟨hx, r, m, args, ats, ho, methV_ok P m⟩
      · cases hc
    | builtin b => exact builtin_okS ho hx hc
  case h_27 a b t x ho =>
    split at hc
    · rename_i want j hu hj
      split at hc
      · rename_i z hz
        cases hp : plain 100 z with
        | false => rw [hp] at hc; cases hc
        | true => rw [hp] at hc; cases hc; exact ⟨hx, vTA_ok ho hu hj hz hp⟩
      · cases hc
    · cases hc
  case h_28 t x k ok ho =>
    unfold cLook at hc
    split at hc
    · rename_i kt el hd
      split at hc
      · rename_i d ti hk hti
        split at hc
        · rename_i q z hq hz
          cases hp : plain 2000 z with
          | false => rw [hp] at hc; cases hc
          | true => rw [hp] at hc; cases hc; exact ⟨hx, look_ok ho hd hk hq hti hz (plain_VR _ _ hp)⟩
        · cases hc
      · cases hc
    · cases hc
  case h_29 t m k x ho =>
    unfold cMapUpd at hc
    split at hc
    · rename_i kt el hd
      split at hc
      · rename_i d hk
        split at hc
        · rename_i q hq; cases hc; exact ⟨hx, mapUpd_ok (.inl ho) hd hk hq⟩
        · cases hc
      · cases hc
    · cases hc
  case h_30 t m k x ho =>
    unfold cMapUpd at hc
    split at hc
    · rename_i kt el hd
      split at hc
      · rename_i d hk
        split at hc
        · rename_i q hq; cases hc; exact ⟨hx, mapUpd_ok (.inr ho) hd hk hq⟩
        · cases hc
      · cases hc
    · cases hc
  case h_31 t x i y ho =>
    unfold cField at hc
    split at hc
    · rename_i fs hd
      split at hc
      · rename_i f hf
        split at hc
        · rename_i d hfd
          cases ha : isAggB d with
          | true => rw [ha] at hc; cases hc
          | false => rw [ha] at hc; cases hc; exact ⟨hx, field1_ok ho hd hf hfd ha⟩
        · cases hc
      · cases hc
    · cases hc
  case h_32 => cases hc
end Go.HM
