import Derived.Test.YtdhcabbngddboaaGreatDoorPk3
import Derived.ChangeSame
import Derived.ChangeVars
import Derived.JoinedOf
import Derived.RowKit
import Derived.RowKitTokens
import Derived.LaidLaws
import Derived.LaidHandle
set_option maxRecDepth 1000000
set_option linter.unusedVariables false
namespace Go.Proofs.YtdhcabbngddboaaGreatDoor
open Go Go.HM Go.ChangeShapes Go.WideShapes Go.RowKit

abbrev laidAll : List (String × DataW Unit) := Rows.playFormsRow.laid
noncomputable abbrev laidN : List (String × DataW Unit) := laidAll.filter fun x => x.2.handleName?.isNone
theorem star : "*" ++ "errors.errorString" = "*errors.errorString" := by decide
theorem row605 (u : TypeId) (h : Tryz.prog.typeName? 3 u = some "*errors.errorString") : u = 605 :=
  typeName_ptr_named (nm := "errors.errorString") (by rw [star]; kernel_rfl) (by kernel_rfl) (by decide) u (by rw [star]; exact h)
theorem cells627 : Tryz.prog.cellsOf 627 = 1 := by kernel_rfl
theorem cells9 : Tryz.prog.cellsOf 9 = 1 := by kernel_rfl

def isSent (d : DataW Unit) : Bool := match d with | .iface n (.ptr (.agg [.lit (.string _)])) => n == "*errors.errorString" | _ => false
theorem isSent_spec {d : DataW Unit} (h : isSent d = true) : ∃ s, d = .iface "*errors.errorString" (.ptr (.agg [.lit (.string s)])) := by
  unfold isSent at h
  split at h
  · rename_i n s; exact ⟨s, by rw [beq_iff_eq.1 h]⟩
  · cases h

theorem sents {W : World} : ∀ (l : List (String × DataW Unit)) (ps : List MemPlace), DataW.LaidVars Tryz.prog W l ps →
    (∀ b off, MemPlace.cell b off ∈ ps → ∀ u v, W.cell? ⟨b, off, none⟩ = some (.iface u v) → Value.okWide Tryz.prog W .any 0 u v) → (∀ x ∈ l, isSent x.2 = true) →
    (∀ x ∈ l, ((Tryz.prog.globalNamed x.1).bind fun g => (Tryz.prog.globals[g]?).map (·.type)) = some 68) →
    ∀ x ∈ l, ∃ (g : Nat) (a : Addr), Tryz.prog.globalNamed x.1 = some g ∧ a.spot = none ∧ ∃ t fz, W.heap[g]? = some (.cells #[.iface 605 (.pointer (some a))] t fz) := by
  intro l
  induction l with
  | nil => intro ps _ _ _ _ x hx; cases hx
  | cons y l ih =>
    intro ps hl hok hs ht x hx
    obtain ⟨n, d⟩ := y
    obtain ⟨g, t, cs, fuel, p, q, hg, htt, hv, hd, hq, he⟩ := hl
    rcases List.mem_cons.1 hx with rfl | hx
    · obtain ⟨s, hs1⟩ := isSent_spec (hs (n, d) List.mem_cons_self)
      simp only at hs1
      subst hs1
      have ht68 : t = 68 := by
        have := ht (n, _) List.mem_cons_self
        simp only [hg, Option.bind_some, htt, Option.some.injEq] at this
        exact this
      subst ht68
      obtain ⟨cl⟩ := cs
      have ok0 : ∀ u v, cl = [.iface u v] → Value.okWide Tryz.prog W .any 0 u v := fun u v e => by
        subst e
        refine hok g 0 ?_ u v (by simpa using World.var?_cell hg hv 0)
        rw [he]; simp [MemPlace.row]
      obtain ⟨a, s', rfl, hc, _, _, _⟩ := errorString_of_trod Tryz.underlying68 row605 Tryz.underlying605 Tryz.underlying627 rfl rfl Tryz.underlying9 cells627 cells9 hd ok0
      refine ⟨g, a, hg, ?_, ?_⟩
      · unfold World.cell? at hc
        split at hc
        · cases hsp : a.spot with
          | none => rfl
          | some sp => rw [hsp] at hc; simp at hc
        · cases hc
      · unfold World.var? at hv
        rw [hg] at hv
        simp only [Option.bind_some] at hv
        split at hv
        · rename_i c t' fz hh
          cases hv
          exact ⟨t', fz, hh⟩
        · cases hv
    · refine ih q hq (fun b off hb => hok b off ?_) (fun z hz => hs z (List.mem_cons_of_mem _ hz)) (fun z hz => ht z (List.mem_cons_of_mem _ hz)) x hx
      rw [he]; exact List.mem_append_right _ hb

theorem allSent : laidN.all (fun x => isSent x.2) = true := by kernel_rfl
theorem allType : laidN.all (fun x => ((Tryz.prog.globalNamed x.1).bind fun g => (Tryz.prog.globals[g]?).map (·.type)) == some 68) = true := by kernel_rfl
theorem allGlob : (List.range 26).all (fun g => g == 1 || g == 19 || laidN.any (fun x => Tryz.prog.globalNamed x.1 == some g)) = true := by kernel_rfl

theorem sentAt {W : World} (h : laidMetH Tryz.prog laidAll W) (g : Nat) (hg : g < 26) (h1 : g ≠ 1) (h19 : g ≠ 19) : ∃ (a : Addr), a.spot = none ∧ ∃ t fz, W.heap[g]? = some (.cells #[.iface 605 (.pointer (some a))] t fz) := by
  have hm : laidMet Tryz.prog laidN W := by
    unfold laidMetH at h
    split at h
    · rename_i he
      exfalso
      have h0 : (laidAll.filter fun x => x.2.handleName?.isSome).length = 1 := by kernel_rfl
      rw [he] at h0; cases h0
    · exact h.1
  obtain ⟨ps, hl, _, hrows⟩ := hm
  have hs := sents laidN ps hl (fun b off hb => (hrows b off hb).2) (fun x hx => List.all_eq_true.1 allSent x hx) (fun x hx => by have := List.all_eq_true.1 allType x hx; simpa using this)
  have := List.all_eq_true.1 allGlob g (List.mem_range.2 hg)
  simp only [Bool.or_eq_true, beq_iff_eq, List.any_eq_true] at this
  rcases this with (h | h) | ⟨x, hx, hxg⟩
  · exact absurd h h1
  · exact absurd h h19
  · obtain ⟨g', a, hg', hsp, hh⟩ := hs x hx
    rw [hg'] at hxg
    cases hxg
    exact ⟨a, hsp, hh⟩

theorem globs_get (n : Nat) : ∀ j, (Dt.globs n .lf).get j = if j < n ∧ j ≠ 1 ∧ j ≠ 19 then .ext [.iface 605 (.complex .f64 (100 + j) 0)] else .no := by
  induction n with
  | zero => intro j; rw [if_neg (by omega)]; rfl
  | succ n ih =>
    intro j
    show (bif Nat.beq n 1 || Nat.beq n 19 then Dt.globs n .lf else (Dt.globs n .lf).set n (.ext [.iface 605 (.complex .f64 (100 + n) 0)])).get j = _
    cases hb : (Nat.beq n 1 || Nat.beq n 19) with
    | true =>
      simp only [Bool.or_eq_true] at hb
      have : n = 1 ∨ n = 19 := hb.imp Nat.eq_of_beq_eq_true Nat.eq_of_beq_eq_true
      simp only [cond_true]
      rw [ih]
      by_cases h : j < n ∧ j ≠ 1 ∧ j ≠ 19
      · rw [if_pos h, if_pos (by omega)]
      · rw [if_neg h, if_neg (by omega)]
    | false =>
      simp only [Bool.or_eq_false_iff] at hb
      have h1 : n ≠ 1 := fun e => by subst e; simp at hb
      have h2 : n ≠ 19 := fun e => by subst e; simp at hb
      simp only [cond_false]
      rw [TM.get_set, ih]
      by_cases hj : j = n
      · subst hj; rw [if_pos rfl, if_pos (by omega)]
      · rw [if_neg hj]
        by_cases h : j < n ∧ j ≠ 1 ∧ j ≠ 19
        · rw [if_pos h, if_pos (by omega)]
        · rw [if_neg h, if_neg (by omega)]

open Classical in
theorem sim0 {W : World} (h : laidMetH Tryz.prog laidAll W) (B : Nat) (hB : 1000 ≤ B) : ∃ ρ, Sim 26 B ρ Dt.s0 W ∧ ∀ id l, ρ id = some (.live l) → id < 1000 := by
  have hsa := sentAt h
  let aOf : Nat → Addr := fun g => if hh : g < 26 ∧ g ≠ 1 ∧ g ≠ 19 then (hsa g hh.1 hh.2.1 hh.2.2).choose else ⟨0, 0, none⟩
  have haOf : ∀ g, g < 26 → g ≠ 1 → g ≠ 19 → (aOf g).spot = none ∧ ∃ t fz, W.heap[g]? = some (.cells #[.iface 605 (.pointer (some (aOf g)))] t fz) := by
    intro g h1 h2 h3
    have e : aOf g = (hsa g h1 h2 h3).choose := dif_pos ⟨h1, h2, h3⟩
    rw [e]; exact (hsa g h1 h2 h3).choose_spec
  let ρ : Rho := fun id => if id < 26 then (if id = 1 ∨ id = 19 then some .dead else some (.live ⟨id, 0, 1⟩)) else if 100 ≤ id ∧ id < 126 then some (.at (aOf (id - 100))) else none
  have hlive : ∀ id l, ρ id = some (.live l) → id < 26 ∧ id ≠ 1 ∧ id ≠ 19 ∧ l = ⟨id, 0, 1⟩ := by
    intro id l hl
    simp only [ρ] at hl
    split at hl
    · split at hl
      · cases hl
      · rename_i q1 q2; cases hl; exact ⟨q1, fun e => q2 (.inl e), fun e => q2 (.inr e), rfl⟩
    · split at hl <;> cases hl
  have hbase : ∀ j, Dt.s0.mem.get j = if j < 26 ∧ j ≠ 1 ∧ j ≠ 19 then .ext [.iface 605 (.complex .f64 (100 + j) 0)] else .no := globs_get 26
  refine ⟨ρ, ⟨fun id l _ hl => ?_, fun i j l l' hi hj he => ?_, fun id l hl => ?_, fun id h1 _ => ?_, fun id h1 => ?_, fun id h1 => ?_, fun g hg => ?_, fun id a h1 => ?_⟩, fun id l hl => by have := (hlive id l hl).1; omega⟩
  · obtain ⟨h1, h2, h3, rfl⟩ := hlive id l hl
    obtain ⟨hsp, t, fz, hh⟩ := haOf id h1 h2 h3
    rw [hbase, if_pos ⟨h1, h2, h3⟩]
    refine ⟨_, t, fz, hh, rfl, by simp, fun k v hk => ?_⟩
    cases k with
    | zero =>
      simp at hk; subst hk
      have hat : ρ (100 + id) = some (.at (aOf id)) := by
        simp only [ρ]
        rw [if_neg (by omega), if_pos (by omega)]
        congr 3; omega
      refine ⟨_, rfl, .iface 605 ?_⟩
      have := VR.sent (o := 0) hat
      have e : (⟨(aOf id).block, (aOf id).off, none⟩ : Addr) = aOf id := by
        revert hsp
        generalize aOf id = q
        intro hsp
        obtain ⟨b, o, sp⟩ := q
        simp only at hsp
        subst hsp; rfl
      rw [e] at this; exact this
    | succ k => simp at hk
  · have e1 := (hlive i l hi).2.2.2
    have e2 := (hlive j l' hj).2.2.2
    subst e1; subst e2
    exact he
  · obtain ⟨h1, h2, h3, rfl⟩ := hlive id l hl
    obtain ⟨_, t, fz, hh⟩ := haOf id h1 h2 h3
    exact (Array.getElem?_eq_some_iff.1 hh).1
  · have h1 : 1000 ≤ id := h1
    simp only [ρ]; rw [if_neg (by omega), if_neg (by omega)]
  · have h1 : B ≤ id ∨ 1000 ≤ id := h1
    rw [hbase, if_neg (by omega)]
  · rw [hbase, if_neg ?_]
    rintro ⟨q1, q2, q3⟩
    simp only [ρ] at h1
    rw [if_pos q1, if_neg (by omega)] at h1
    cases h1
  · by_cases hq : g = 1 ∨ g = 19
    · exact ⟨none, by simp only [ρ]; rw [if_pos hg, if_pos hq]; rfl⟩
    · exact ⟨some 1, by simp only [ρ]; rw [if_pos hg, if_neg hq]; rfl⟩
  · rw [hbase, if_neg ?_]
    rintro ⟨q1, q2, q3⟩
    simp only [ρ] at h1
    rw [if_pos q1, if_neg (by omega)] at h1
    cases h1

/-- all that lay lies as it lay -/
def Kept (W W' : World) : Prop := W'.os = W.os ∧ W'.output = W.output ∧ ∀ b, b < W.heap.size → W'.heap[b]? = W.heap[b]?
theorem walk3 {W : World} (h : laidMetH Tryz.prog laidAll W) : Calls Tryz.prog 3 #[] W fun e W' => e = .returned (.bool true) ∧ Kept W W' := by
  obtain ⟨s', hn, hs⟩ := sim3
  obtain ⟨ρ, hsim, hro⟩ := sim0 h s'.next hn
  refine (hs (Nat.le_refl _) s'.next ρ W [] hsim (Nat.le_refl _) .nil).mono ?_
  rintro e W' ⟨v', ρ', rfl, hv, hx, _⟩
  cases hv
  exact ⟨rfl, hx.os, hx.output, fun b hb => hx.keep b hb fun id l hl _ => hro id l hl⟩
theorem Kept.but {W W' : World} (h : Kept W W') (may : MemPlace → Prop) : W.keptBut W' may := by
  refine ⟨h.1, h.2.1, fun i hi => ?_⟩
  rw [h.2.2 i hi]
  exact (World.keptBut_refl W may).2.2 i hi
end Go.Proofs.YtdhcabbngddboaaGreatDoor
