import Derived.Test.YtdhcabbngddboaaGreatDoorHmL
set_option linter.unusedVariables false
set_option linter.unusedSimpArgs false
namespace Go.HM

section
variable {P : Program} {o : Oper}

/-! ### cutting -/
def bnd (y : Nat) : Value → Option Nat
  | .int _ (.ofNat i) => bif Nat.ble i y then some i else none
  | _ => none
theorem bnd_run {w : World} {ρ : Rho} {v v' : Value} {y y' i : Nat} (h : VR ρ v v') (hb : bnd y v = some i) (hy : y ≤ y') (code : BoundsCode) : i ≤ y ∧ (Instr.sliceBound v' y' code).run P w = .ok i w := by
  unfold bnd at hb
  split at hb
  · rename_i k n
    cases hb' : Nat.ble n y with
    | false => rw [hb'] at hb; simp at hb
    | true =>
      rw [hb'] at hb
      cases hb
      have hle : i ≤ y := Nat.le_of_ble_eq_true hb'
      cases h
      refine ⟨hle, ?_⟩
      have h1 : (0 : Int) ≤ Int.ofNat i ∧ Int.ofNat i ≤ (y' : Int) := ⟨by simp, by simp; omega⟩
      simp only [Instr.sliceBound, asIntOf, Sem.run_bind, Sem.run_pure, Result.andThen_ok, h1, if_true, and_self]
      rfl
  · cases hb

/-- which of the three bounds are there, and the values behind the first -/
def pick3 (l h m : Bool) (vs : List Value) : Option (Option Value × Option Value × Option Value) :=
  match l, h, m, vs with
  | false, false, false, [] => some (none, none, none)
  | true, false, false, [a] => some (some a, none, none)
  | false, true, false, [b] => some (none, some b, none)
  | true, true, false, [a, b] => some (some a, some b, none)
  | true, true, true, [a, b, c] => some (some a, some b, some c)
  | false, true, true, [b, c] => some (none, some b, some c)
  | _, _, _, _ => none
def cutB (len cap : Nat) (lo hi mx : Option Value) : Option (Nat × Nat × Nat) :=
  match (match mx with | some v => bnd cap v | none => some cap) with
  | none => none
  | some m => match (match hi with | some v => bnd m v | none => some len) with
    | none => none
    | some h => match (match lo with | some v => bnd h v | none => some 0) with
      | none => none
      | some l => some (l, h, m)
def vSlice (hl hh hm : Bool) (es : Nat) : FN
  | .slice a len cap :: vs => match pick3 hl hh hm vs with
    | none => none
    | some (lo, hi, mx) => match cutB len (cap / 512) lo hi mx with
      | none => none
      | some (l, h, m) => match a with
        | none => bif Nat.beq h 0 then some (.slice none 0 cap) else none
        | some a => bif Nat.beq (cap % 256) es && (Nat.ble l h && Nat.ble h m) then
          some (.slice (some ⟨a.block, Nat.add a.off (Nat.mul l es), none⟩) (Nat.sub h l) (capOf (Nat.sub m l) (bif hm then 1 else cap / 256 % 2) es)) else none
  | _ => none

inductive OptR (ρ : Rho) : Option Value → Option Value → Prop
  | none : OptR ρ none none
  | some {a b} : VR ρ a b → OptR ρ (some a) (some b)

theorem cutB_run {w : World} {ρ : Rho} {len c cap' l h m : Nat} {lo hi mx lo' hi' mx' : Option Value} (h1 : OptR ρ lo lo') (h2 : OptR ρ hi hi') (h3 : OptR ρ mx mx') (hv : mx = none ∨ hi ≠ none) (hlen : len ≤ c) (hc : c ≤ cap')
    (hcut : cutB len c lo hi mx = some (l, h, m)) :
    ∃ m', (Instr.sliceBounds true len cap' lo' hi' mx').run P w = .ok (l, h, m') w ∧ l ≤ h ∧ h ≤ m ∧ m ≤ m' ∧ m ≤ c ∧ m' ≤ cap' ∧ (mx ≠ none → m' = m) ∧ (mx = none → m = c ∧ m' = cap') := by
  unfold cutB at hcut
  cases h3 with
  | none =>
    simp only at hcut
    cases h2 with
    | none =>
      simp only at hcut
      cases h1 with
      | none =>
        simp only at hcut; cases hcut
        exact ⟨cap', by simp [Instr.sliceBounds], by omega, hlen, hc, by omega, by omega, by simp, fun _ => ⟨rfl, rfl⟩⟩
      | some hl =>
        simp only at hcut
        split at hcut
        · cases hcut
        · rename_i i hi; cases hcut
          obtain ⟨p1, p2⟩ := bnd_run (P := P) (w := w) hl hi (Nat.le_refl _) .sliceB
          exact ⟨cap', by simp [Instr.sliceBounds, p2], p1, hlen, hc, by omega, by omega, by simp, fun _ => ⟨rfl, rfl⟩⟩
    | some hh =>
      simp only at hcut
      split at hcut
      · cases hcut
      · rename_i j hj
        obtain ⟨q1, q2⟩ := bnd_run (P := P) (w := w) hh hj hc .sliceAcap
        cases h1 with
        | none =>
          simp only at hcut; cases hcut
          exact ⟨cap', by simp [Instr.sliceBounds, q2], by omega, q1, hc, by omega, by omega, by simp, fun _ => ⟨rfl, rfl⟩⟩
        | some hl =>
          simp only at hcut
          split at hcut
          · cases hcut
          · rename_i i hi; cases hcut
            obtain ⟨p1, p2⟩ := bnd_run (P := P) (w := w) hl hi (Nat.le_refl _) .sliceB
            exact ⟨cap', by simp [Instr.sliceBounds, p2, q2], p1, q1, hc, by omega, by omega, by simp, fun _ => ⟨rfl, rfl⟩⟩
  | some hm =>
    simp only at hcut
    split at hcut
    · cases hcut
    · rename_i k hk
      obtain ⟨r1, r2⟩ := bnd_run (P := P) (w := w) hm hk hc .slice3Acap
      cases h2 with
      | none => rcases hv with hv | hv <;> simp at hv
      | some hh =>
        simp only at hcut
        split at hcut
        · cases hcut
        · rename_i j hj
          obtain ⟨q1, q2⟩ := bnd_run (P := P) (w := w) hh hj (Nat.le_refl _) .slice3B
          cases h1 with
          | none =>
            simp only at hcut; cases hcut
            exact ⟨m, by simp [Instr.sliceBounds, q2, r2], by omega, q1, by omega, by omega, by omega, fun _ => rfl, by simp⟩
          | some hl =>
            simp only at hcut
            split at hcut
            · cases hcut
            · rename_i i hi; cases hcut
              obtain ⟨p1, p2⟩ := bnd_run (P := P) (w := w) hl hi (Nat.le_refl _) .slice3C
              exact ⟨m, by simp [Instr.sliceBounds, p2, q2, r2], p1, q1, by omega, by omega, by omega, fun _ => rfl, by simp⟩

theorem slice_ok {t el : TypeId} {x : Operand} {lo hi mx : Option Operand} {ti : TypeInfo} (ho : o.op = .slice t x lo hi mx) (hd : P.underlying t = some (.slice el)) (ht : P.info? el = some ti) (hes : ti.size < 256) :
    PureOK P o (vSlice lo.isSome hi.isSome mx.isSome ti.size) := by
  intro ρ w e l v hl hv
  have hl' : VRs ρ l (e x :: (lo.toList.map e ++ (hi.toList.map e ++ mx.toList.map e))) := by
    have : o.op.operands.toList.map e = e x :: (lo.toList.map e ++ (hi.toList.map e ++ mx.toList.map e)) := by
      rw [ho]; simp [Op.operands]
    rwa [this] at hl
  unfold vSlice at hv
  split at hv
  case h_2 => cases hv
  case h_1 a len cap vs =>
  cases hl' with
  | cons hx hvs =>
  split at hv
  · cases hv
  · rename_i alo ahi amx hp
    have hopt : OptR ρ alo (lo.map e) ∧ OptR ρ ahi (hi.map e) ∧ OptR ρ amx (mx.map e) ∧ (amx = none ∨ ahi ≠ none) ∧ mx.isSome = amx.isSome := by
      unfold pick3 at hp
      split at hp
      case h_7 => cases hp
      all_goals
        rename_i h1 h2 h3
        cases lo <;> first | (simp at h1; done) | skip
        all_goals cases hi <;> first | (simp at h2; done) | skip
        all_goals cases mx <;> first | (simp at h3; done) | skip
        all_goals cases hp
      · exact ⟨.none, .none, .none, .inl rfl, rfl⟩
      · obtain ⟨b, e1, e2⟩ := VRs.one (by simpa using hvs)
        cases e1
        exact ⟨.some e2, .none, .none, .inl rfl, rfl⟩
      · obtain ⟨b, e1, e2⟩ := VRs.one (by simpa using hvs)
        cases e1
        exact ⟨.none, .some e2, .none, .inl rfl, rfl⟩
      · obtain ⟨b, c, e1, e2, e3⟩ := VRs.two (by simpa using hvs)
        cases e1
        exact ⟨.some e2, .some e3, .none, .inl rfl, rfl⟩
      · obtain ⟨b, c, d, e1, e2, e3, e4⟩ := VRs.three (by simpa using hvs)
        cases e1
        exact ⟨.some e2, .some e3, .some e4, .inr (by simp), rfl⟩
      · obtain ⟨b, c, e1, e2, e3⟩ := VRs.two (by simpa using hvs)
        cases e1
        exact ⟨.none, .some e2, .some e3, .inr (by simp), rfl⟩
    obtain ⟨o1, o2, o3, o4, o5⟩ := hopt
    split at hv
    · cases hv
    · rename_i lw h m hcut
      have hrun : ∀ u, (Instr.sliceAt t (e x) (lo.map e) (hi.map e) (mx.map e)).run P w = .ok u w → (execOp e o).run P w = .ok (.value u) w := by
        intro u hu
        unfold execOp; rw [ho]
        simp [hu]
      generalize hex : e x = ex at hx hrun
      cases hx with
      | nils _ hc0 =>
        simp only at hv
        cases hh : Nat.beq h 0 with
        | false => rw [hh] at hv; simp at hv
        | true =>
          rw [hh] at hv; cases hv
          have hh0 : h = 0 := Nat.eq_of_beq_eq_true hh
          obtain ⟨m', c1, c2, c3, c4, c5, c6, c7, c8⟩ := cutB_run (P := P) (w := w) (cap' := 0) o1 o2 o3 o4 (Nat.zero_le _) (by omega) hcut
          refine ⟨.slice none 0 0, hrun _ ?_, .nils _ hc0⟩
          have hm0 : m' = 0 := by omega
          have hl0 : lw = 0 := by omega
          subst hh0; subst hm0; subst hl0
          simp only [Instr.sliceAt, Sem.run_bind, run_und hd, Result.andThen_ok, Instr.slice, c1, run_szOf ht, Sem.run_pure]
          rfl
      | slice _ hsr =>
        rename_i a a' cap'
        obtain ⟨p1, p2, ⟨p3, p4⟩, p5, st, p6, p7⟩ := hsr
        simp only [Nat.add_eq, Nat.mul_eq, Nat.sub_eq] at hv
        cases hh : (Nat.beq (cap % 256) ti.size && (Nat.ble lw h && Nat.ble h m)) with
        | false => rw [hh] at hv; simp at hv
        | true =>
          rw [hh] at hv; cases hv
          simp only [Bool.and_eq_true] at hh
          have hce : cap % 256 = ti.size := Nat.eq_of_beq_eq_true hh.1
          obtain ⟨m', c1, c2, c3, c4, c5, c6, c7, c8⟩ := cutB_run (P := P) (w := w) (cap' := cap') o1 o2 o3 o4 p3 p4 hcut
          refine ⟨.slice (if m' = lw then some a' else (some a').map (·.add (lw * ti.size))) (h - lw) (m' - lw), hrun _ ?_, ?_⟩
          · simp only [Instr.sliceAt, Sem.run_bind, run_und hd, Result.andThen_ok, Instr.slice, c1, run_szOf ht, Sem.run_pure]
          · have hexv : (bif mx.isSome then 1 else cap / 256 % 2) < 2 := by cases mx.isSome <;> simp <;> omega
            obtain ⟨k1, k2, k3⟩ := capOf_spec (c := m - lw) (es := ti.size) hexv hes
            by_cases hml : m' = lw
            · rw [if_pos hml]
              refine .slice _ ⟨rfl, p2, ⟨by omega, by omega⟩, fun hx1 => by omega, st, p6, fun l hl hpos => by omega⟩
            · rw [if_neg hml]
              simp only [Option.map_some]
              rw [add_off p2]
              refine .slice _ ⟨rfl, rfl, ⟨by omega, by omega⟩, fun hx1 => ?_, st, p6, fun l hl hpos => ?_⟩
              · rw [k2] at hx1
                rw [k1]
                cases hmx : mx with
                | some _ =>
                  have : amx ≠ none := by rw [hmx] at o5; intro h; rw [h] at o5; simp at o5
                  rw [c7 this]
                | none =>
                  have hamx : amx = none := by rw [hmx] at o5; cases amx with | none => rfl | some _ => simp at o5
                  obtain ⟨d1, d2⟩ := c8 hamx
                  rw [hmx] at hx1
                  simp only [Option.isSome_none, cond_false] at hx1
                  have := p5 hx1
                  omega
              · obtain ⟨q1, q2, q3⟩ := p7 l hl (by omega)
                refine ⟨q1, by simp only; omega, ?_⟩
                simp only
                rw [k3]
                rw [hce] at q3
                have hle : lw + (m' - lw) ≤ cap' := by omega
                have := Nat.mul_le_mul_right ti.size hle
                rw [Nat.add_mul] at this
                omega

/-! ### the least, the greatest -/
def minK (mx : Bool) (k : IntKind) : Int → List Value → Option Value
  | a, [] => some (.int k a)
  | a, .int j b :: r => bif beqK k j then minK mx k (bif (bif mx then ltZ a b else ltZ b a) then b else a) r else none
  | _, _ => none
def vMin (mx : Bool) : FN
  | .int k a :: r => minK mx k a r
  | _ => none
theorem min_ok {args : Array Operand} {at' : Array TypeId} {mx : Bool} (ho : o.op = .call { callee := .builtin (bif mx then .max else .min), args := args, argTypes := at' }) : PureOK P o (vMin mx) := by
  intro ρ w e l v hl hv
  have hl' : VRs ρ l (args.toList.map e) := by simpa [Op.operands, Call.operands, ho] using hl
  unfold vMin at hv
  split at hv
  case h_2 => cases hv
  case h_1 k a r =>
  generalize hx : args.toList.map e = xs at hl'
  cases hl' with
  | cons h1 h2 =>
    cases h1
    rename_i r'
    have key : ∀ (r r' : List Value) (a : Int) (v : Value), VRs ρ r r' → minK mx k a r = some v →
        (∃ n, v = .int k n) ∧ (r'.foldlM (bif mx then Builtin.max2 else Builtin.min2) (.int k a)).run P w = .ok v w := by
      intro r
      induction r with
      | nil => intro r' a v h hm; cases h; simp only [minK] at hm; cases hm; exact ⟨⟨a, rfl⟩, rfl⟩
      | cons x r ih =>
        intro r' a v h hm
        cases h with
        | cons hx hr =>
          unfold minK at hm
          split at hm
          · rename_i heq; cases heq
          · rename_i j b r2 heq
            simp only [List.cons.injEq] at heq
            obtain ⟨rfl, rfl⟩ := heq
            cases hk : beqK k j with
            | false => rw [hk] at hm; simp at hm
            | true =>
              rw [hk] at hm
              simp only [cond_true] at hm
              have := beqK_iff.1 hk; subst this
              cases hx
              obtain ⟨h3, h4⟩ := ih _ _ _ hr hm
              refine ⟨h3, ?_⟩
              rw [List.foldlM_cons]
              simp only [Sem.run_bind]
              rw [← h4]
              cases mx with
              | true =>
                simp only [cond_true, Builtin.max2, Sem.run_pure, Result.andThen_ok, ltZ_eq, Bool.cond_decide, gt_iff_lt]
              | false =>
                simp only [cond_false, Builtin.min2, Sem.run_pure, Result.andThen_ok, ltZ_eq, Bool.cond_decide]
          · cases hm
    obtain ⟨⟨n, rfl⟩, h4⟩ := key _ _ _ _ h2 hv
    refine ⟨_, ?_, .int _ _⟩
    have hm : args.map e = ⟨.int k a :: r'⟩ := by apply Array.ext'; rw [Array.toList_map, hx]
    cases mx with
    | true => exact run_builtin ho hm (fun c => rfl) (s := Builtin.max_ at' o.type ⟨.int k a :: r'⟩) h4
    | false => exact run_builtin ho hm (fun c => rfl) (s := Builtin.min_ at' o.type ⟨.int k a :: r'⟩) h4
end
end Go.HM
