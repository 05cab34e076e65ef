import Derived.Test.YtdhcabbngddboaaGreatDoorHmA
set_option linter.unusedVariables false
namespace Go.HM

/-! ### the evaluator -/
inductive Opd | t (p : Pt) | c (v : Value)

noncomputable def ev (fr : Fr) (x : Opd) : Value := Opd.rec (motive := fun _ => Value) (fun p => fr.get p) (fun v => v) x
noncomputable def evs (fr : Fr) (l : List Opd) : List Value := List.rec (motive := fun _ => List Value) [] (fun x _ ih => ev fr x :: ih) l

abbrev F1 := Value → Option Value
abbrev F2 := Value → Value → Option Value
abbrev FN := List Value → Option Value
abbrev RD := List Value → M → Option Value
abbrev AL := List Value → Option (HO × (Nat → Value))
abbrev EF := List Value → M → Option (Value × M)

inductive HOp
  | mv (x : Opd)
  | p1 (f : F1) (x : Opd)
  | p2 (f : F2) (x y : Opd)
  | pn (f : FN) (xs : List Opd)
  | rd (f : RD) (xs : List Opd)
  | al (f : AL) (xs : List Opd)
  | ef (f : EF) (xs : List Opd)
  | call (f : Opd) (xs : List Opd)
  | inv (g : Value → Option (Nat × Value)) (x : Opd) (xs : List Opd)
  | bad

structure HR where
  dst : Option Pt
  guard : Option (Pt × Bool)
  op : HOp

inductive HC
  | skip
  | region (ops : List HR)
  | draws (ops : List HR) (pairs : List (Nat × Nat))
  | seq (a b : HC)
  | cond (c : Opd) (a b : HC)
  | block (id : Nat) (b : HC)
  | loop (b : HC)
  | exit (id : Nat)
  | ret
  | bad

inductive Ex | normal | exit (id : Nat) | ret

abbrev Res := Option (Value × M)
abbrev KV := Value → M → Res
abbrev KE := Ex → Fr → M → Res
abbrev CallF := Nat → List Value → M → KV → Res

noncomputable def putD (d : Option Pt) (v : Value) (fr : Fr) : Fr := Option.rec (motive := fun _ => Fr) fr (fun p => fr.set p v) d

noncomputable def kO (k : Value → Res) (x : Option Value) : Res := Option.rec (motive := fun _ => Res) none k x
noncomputable def kM (k : KV) (x : Option (Value × M)) : Res := Option.rec (motive := fun _ => Res) none (fun p => k p.1 p.2) x
noncomputable def alloc (s : M) (o : HO) : M := ⟨s.next + 1, s.mem.set s.next o⟩
noncomputable def kA (s : M) (k : KV) (x : Option (HO × (Nat → Value))) : Res := Option.rec (motive := fun _ => Res) none (fun p => k (p.2 s.next) (alloc s p.1)) x
def callV (call : CallF) (xs : List Value) (s : M) (k : KV) : Value → Res
  | .func (.func g) first captured => call g (first.toList ++ (xs ++ captured.toList)) s k
  | _ => none


/-! Memory and frames are made whole, node by node, ahead of what follows: the kernel keeps no chain of what is still to be done. -/
noncomputable def setKF (k : Nat) : TM → Nat → HO → (TM → Res) → Res :=
  Nat.rec (motive := fun _ => TM → Nat → HO → (TM → Res) → Res) (fun t _ _ c => c t)
    (fun _ ih t n x c => TM.rec (motive := fun _ => Res)
      (Bool.rec (motive := fun _ => Res) (Bool.rec (motive := fun _ => Res) (ih .lf (Nat.sub (Nat.div n 2) 1) x (fun r => c (.nd .lf .no r))) (ih .lf (Nat.div n 2) x (fun l => c (.nd l .no .lf))) (Nat.beq (Nat.mod n 2) 1)) (c (.nd .lf x .lf)) (Nat.beq n 0))
      (fun l v r _ _ => Bool.rec (motive := fun _ => Res) (Bool.rec (motive := fun _ => Res) (ih r (Nat.sub (Nat.div n 2) 1) x (fun r' => c (.nd l v r'))) (ih l (Nat.div n 2) x (fun l' => c (.nd l' v r))) (Nat.beq (Nat.mod n 2) 1)) (c (.nd l x r)) (Nat.beq n 0)) t) k
theorem setKF_eq : ∀ (k : Nat) (t : TM) (n : Nat) (x : HO) (c : TM → Res), setKF k t n x c = c (TM.setF k t n x) := by
  intro k
  induction k with
  | zero => intro t n x c; rfl
  | succ k ih =>
    intro t n x c
    cases t with
    | lf =>
      show Bool.rec (motive := fun _ => Res) (Bool.rec (motive := fun _ => Res) (setKF k .lf (Nat.sub (Nat.div n 2) 1) x (fun r => c (.nd .lf .no r))) (setKF k .lf (Nat.div n 2) x (fun l => c (.nd l .no .lf))) (Nat.beq (Nat.mod n 2) 1)) (c (.nd .lf x .lf)) (Nat.beq n 0) = c (Bool.rec (motive := fun _ => TM) (Bool.rec (motive := fun _ => TM) (TM.nd .lf .no (TM.setF k .lf (n / 2 - 1) x)) (.nd (TM.setF k .lf (n / 2) x) .no .lf) (Nat.beq (n % 2) 1)) (.nd .lf x .lf) (Nat.beq n 0))
      rw [ih, ih]
      cases Nat.beq n 0 with
      | true => rfl
      | false => show _ = c (Bool.rec (motive := fun _ => TM) (TM.nd .lf .no (TM.setF k .lf (n / 2 - 1) x)) (.nd (TM.setF k .lf (n / 2) x) .no .lf) (Nat.beq (n % 2) 1)); cases Nat.beq (n % 2) 1 <;> rfl
    | nd l v r =>
      show Bool.rec (motive := fun _ => Res) (Bool.rec (motive := fun _ => Res) (setKF k r (Nat.sub (Nat.div n 2) 1) x (fun r' => c (.nd l v r'))) (setKF k l (Nat.div n 2) x (fun l' => c (.nd l' v r))) (Nat.beq (Nat.mod n 2) 1)) (c (.nd l x r)) (Nat.beq n 0) = c (Bool.rec (motive := fun _ => TM) (Bool.rec (motive := fun _ => TM) (TM.nd l v (TM.setF k r (n / 2 - 1) x)) (.nd (TM.setF k l (n / 2) x) v r) (Nat.beq (n % 2) 1)) (.nd l x r) (Nat.beq n 0))
      rw [ih, ih]
      cases Nat.beq n 0 with
      | true => rfl
      | false => show _ = c (Bool.rec (motive := fun _ => TM) (TM.nd l v (TM.setF k r (n / 2 - 1) x)) (.nd (TM.setF k l (n / 2) x) v r) (Nat.beq (n % 2) 1)); cases Nat.beq (n % 2) 1 <;> rfl
noncomputable def touchF (k : Nat) : TM → Nat → (TM → Res) → Res :=
  Nat.rec (motive := fun _ => TM → Nat → (TM → Res) → Res) (fun t _ c => c t)
    (fun _ ih t n c => TM.rec (motive := fun _ => Res) (c .lf)
      (fun l v r _ _ => Bool.rec (motive := fun _ => Res) (Bool.rec (motive := fun _ => Res) (ih r (Nat.sub (Nat.div n 2) 1) (fun r' => c (.nd l v r'))) (ih l (Nat.div n 2) (fun l' => c (.nd l' v r))) (Nat.beq (Nat.mod n 2) 1))
        (HO.rec (motive := fun _ => Res) (c (.nd l .no r)) (fun x => c (.nd l (.cells x) r)) (fun x => c (.nd l (.ext x) r)) (fun x => c (.nd l (.map x) r)) (fun x y => c (.nd l (.iter x y) r)) v) (Nat.beq n 0)) t) k
theorem touchF_eq : ∀ (k : Nat) (t : TM) (n : Nat) (c : TM → Res), touchF k t n c = c t := by
  intro k
  induction k with
  | zero => intro t n c; rfl
  | succ k ih =>
    intro t n c
    cases t with
    | lf => rfl
    | nd l v r =>
      show Bool.rec (motive := fun _ => Res) (Bool.rec (motive := fun _ => Res) (touchF k r (Nat.sub (Nat.div n 2) 1) (fun r' => c (.nd l v r'))) (touchF k l (Nat.div n 2) (fun l' => c (.nd l' v r))) (Nat.beq (Nat.mod n 2) 1))
        (HO.rec (motive := fun _ => Res) (c (.nd l .no r)) (fun x => c (.nd l (.cells x) r)) (fun x => c (.nd l (.ext x) r)) (fun x => c (.nd l (.map x) r)) (fun x y => c (.nd l (.iter x y) r)) v) (Nat.beq n 0) = _
      rw [ih, ih]
      cases Nat.beq n 0 with
      | true => cases v <;> rfl
      | false => show Bool.rec (motive := fun _ => Res) _ _ (Nat.beq (Nat.mod n 2) 1) = _; cases Nat.beq (Nat.mod n 2) 1 <;> rfl
def blkOf : List Value → Nat
  | .pointer (some a) :: _ => a.block
  | .slice (some a) _ _ :: _ => a.block
  | .map (some r) :: _ => r
  | _ => 0
noncomputable def kA' (s : M) (k : KV) (x : Option (HO × (Nat → Value))) : Res :=
  Option.rec (motive := fun _ => Res) none (fun p => M.rec (motive := fun _ => Res) (fun next mem => setKF (Nat.succ next) mem next p.1 (fun mem' => k (p.2 next) ⟨next + 1, mem'⟩)) s) x
theorem kA'_eq (s : M) (k : KV) (x : Option (HO × (Nat → Value))) : kA' s k x = kA s k x := by
  cases x with
  | none => rfl
  | some p => cases s with | mk next mem => exact setKF_eq (Nat.succ next) mem next p.1 (fun mem' => k (p.2 next) ⟨next + 1, mem'⟩)
noncomputable def kM' (b n : Nat) (k : KV) (x : Option (Value × M)) : Res :=
  Option.rec (motive := fun _ => Res) none (fun p => M.rec (motive := fun _ => Res) (fun next mem => touchF (Nat.succ b) mem b (fun mem' => Bool.rec (motive := fun _ => Res) (touchF (Nat.succ n) mem' n (fun mem2 => k p.1 ⟨next, mem2⟩)) (k p.1 ⟨next, mem'⟩) (Nat.ble next n))) p.2) x
theorem kM'_eq (b n : Nat) (k : KV) (x : Option (Value × M)) : kM' b n k x = kM k x := by
  cases x with
  | none => rfl
  | some p =>
    obtain ⟨v, next, mem⟩ := p
    refine (touchF_eq (Nat.succ b) mem b (fun mem' => Bool.rec (motive := fun _ => Res) (touchF (Nat.succ n) mem' n (fun mem2 => k v ⟨next, mem2⟩)) (k v ⟨next, mem'⟩) (Nat.ble next n))).trans ?_
    have := touchF_eq (Nat.succ n) mem n (fun mem2 => k v ⟨next, mem2⟩)
    show Bool.rec (motive := fun _ => Res) (touchF (Nat.succ n) mem n (fun mem2 => k v ⟨next, mem2⟩)) (k v ⟨next, mem⟩) (Nat.ble next n) = k v ⟨next, mem⟩
    rw [this]
    cases Nat.ble next n <;> rfl
noncomputable def setFK (p : Pt) : Value → Fr → (Fr → Res) → Res :=
  Pt.rec (motive := fun _ => Value → Fr → (Fr → Res) → Res)
    (fun x t c => Fr.rec (motive := fun _ => Res) (c (.nd .lf x .lf)) (fun l _ r _ _ => c (.nd l x r)) t)
    (fun _ ih x t c => Fr.rec (motive := fun _ => Res) (ih x .lf (fun l => c (.nd l undefV .lf))) (fun l v r _ _ => ih x l (fun l' => c (.nd l' v r))) t)
    (fun _ ih x t c => Fr.rec (motive := fun _ => Res) (ih x .lf (fun r => c (.nd .lf undefV r))) (fun l v r _ _ => ih x r (fun r' => c (.nd l v r'))) t) p
theorem setFK_eq : ∀ (p : Pt) (x : Value) (t : Fr) (c : Fr → Res), setFK p x t c = c (Fr.set p x t) := by
  intro p
  induction p with
  | h => intro x t c; cases t <;> rfl
  | o p ih => intro x t c; cases t with
    | lf => exact ih x .lf _
    | nd l v r => exact ih x l _
  | i p ih => intro x t c; cases t with
    | lf => exact ih x .lf _
    | nd l v r => exact ih x r _
noncomputable def putK (d : Option Pt) (v : Value) (fr : Fr) (c : Fr → Res) : Res := Option.rec (motive := fun _ => Res) (c fr) (fun p => setFK p v fr c) d
theorem putK_eq (d : Option Pt) (v : Value) (fr : Fr) (c : Fr → Res) : putK d v fr c = c (putD d v fr) := by
  cases d with
  | none => rfl
  | some p => exact setFK_eq p v fr c

noncomputable def invV (call : CallF) (xs : List Value) (s : M) (k : KV) (p : Option (Nat × Value)) : Res := Option.rec (motive := fun _ => Res) none (fun p => call p.1 (p.2 :: xs) s k) p
noncomputable def opK (o : HOp) : CallF → Fr → M → KV → Res :=
  HOp.rec (motive := fun _ => CallF → Fr → M → KV → Res)
    (fun x _ fr s k => k (ev fr x) s)
    (fun f x _ fr s k => kO (fun v => k v s) (f (ev fr x)))
    (fun f x y _ fr s k => kO (fun v => k v s) (f (ev fr x) (ev fr y)))
    (fun f xs _ fr s k => kO (fun v => k v s) (f (evs fr xs)))
    (fun f xs _ fr s k => kO (fun v => k v s) (f (evs fr xs) s))
    (fun f xs _ fr s k => kA' s k (f (evs fr xs)))
    (fun f xs _ fr s k => kM' (blkOf (evs fr xs)) s.next k (f (evs fr xs) s))
    (fun f xs call fr s k => callV call (evs fr xs) s k (ev fr f))
    (fun g x xs call fr s k => invV call (evs fr xs) s k (g (ev fr x)))
    (fun _ _ _ _ => none) o
noncomputable def doOp (call : CallF) (fr : Fr) (s : M) (k : KV) (o : HOp) : Res := opK o call fr s k

theorem opK_al (call : CallF) (f : AL) (xs : List Opd) (fr : Fr) (s : M) (k : KV) : opK (.al f xs) call fr s k = kA s k (f (evs fr xs)) := kA'_eq _ _ _
theorem opK_ef (call : CallF) (f : EF) (xs : List Opd) (fr : Fr) (s : M) (k : KV) : opK (.ef f xs) call fr s k = kM k (f (evs fr xs) s) := kM'_eq _ _ _ _

def isB (b : Bool) : Value → Bool
  | .bool b' => b == b'
  | _ => false
noncomputable def wants (fr : Fr) (g : Option (Pt × Bool)) : Bool := Option.rec (motive := fun _ => Bool) true (fun pb => isB pb.2 (fr.get pb.1)) g

noncomputable def goR (o : HR) (call : CallF) (ih : Fr → M → Res) (fr : Fr) (s : M) : Res := opK o.op call fr s (fun v s' => putK o.dst v fr (fun fr' => ih fr' s'))
noncomputable def stR (o : HR) (call : CallF) (ih : Fr → M → Res) (fr : Fr) (s : M) : Res :=
  Option.rec (motive := fun _ => Res) (goR o call ih fr s) (fun pb => Bool.rec (motive := fun _ => Res) (putK o.dst undefV fr (fun fr' => ih fr' s)) (goR o call ih fr s) (isB pb.2 (fr.get pb.1))) o.guard
noncomputable def evR (call : CallF) (k : Fr → M → Res) (ops : List HR) : Fr → M → Res :=
  List.rec (motive := fun _ => Fr → M → Res) k (fun o _ ih => stR o call ih) ops
theorem evR_cons (call : CallF) (k : Fr → M → Res) (o : HR) (hs : List HR) (fr : Fr) (s : M) : evR call k (o :: hs) fr s = Bool.rec (motive := fun _ => Res) (evR call k hs (putD o.dst undefV fr) s) (doOp call fr s (fun v s' => evR call k hs (putD o.dst v fr) s') o.op) (wants fr o.guard) := by
  have h1 : ∀ (d : Option Pt) (op : HOp), opK op call fr s (fun v s' => putK d v fr (fun fr' => evR call k hs fr' s')) = doOp call fr s (fun v s' => evR call k hs (putD d v fr) s') op := fun d op => by
    show _ = opK op call fr s _
    congr 1
    funext v s'
    exact putK_eq _ _ _ _
  cases o with
  | mk d g op =>
    cases g with
    | none => exact h1 d op
    | some pb =>
      show Bool.rec (motive := fun _ => Res) (putK d undefV fr (fun fr' => evR call k hs fr' s)) (opK op call fr s (fun v s' => putK d v fr (fun fr' => evR call k hs fr' s'))) (isB pb.2 (fr.get pb.1)) = Bool.rec (motive := fun _ => Res) _ _ (isB pb.2 (fr.get pb.1))
      rw [h1, putK_eq]

/-- what a drawn region keeps of each operation: the frame ahead, memory ahead and behind, what it told; whether it ran -/
structure En where
  ran : Bool
  fr : Fr
  s : M
  v : Value
  s' : M

noncomputable def goD (o : HR) (call : CallF) (ih : List En → Fr → M → Res) (tr : List En) (fr : Fr) (s : M) : Res := opK o.op call fr s (fun v s' => putK o.dst v fr (fun fr' => ih (tr ++ [⟨true, fr, s, v, s'⟩]) fr' s'))
noncomputable def stD (o : HR) (call : CallF) (ih : List En → Fr → M → Res) (tr : List En) (fr : Fr) (s : M) : Res :=
  Option.rec (motive := fun _ => Res) (goD o call ih tr fr s) (fun pb => Bool.rec (motive := fun _ => Res) (putK o.dst undefV fr (fun fr' => ih (tr ++ [⟨false, fr, s, undefV, s⟩]) fr' s)) (goD o call ih tr fr s) (isB pb.2 (fr.get pb.1))) o.guard
noncomputable def evD (call : CallF) (k : List En → Fr → M → Res) (ops : List HR) : List En → Fr → M → Res :=
  List.rec (motive := fun _ => List En → Fr → M → Res) k (fun o _ ih => stD o call ih) ops
theorem evD_cons (call : CallF) (k : List En → Fr → M → Res) (o : HR) (hs : List HR) (tr : List En) (fr : Fr) (s : M) : evD call k (o :: hs) tr fr s = Bool.rec (motive := fun _ => Res) (evD call k hs (tr ++ [⟨false, fr, s, undefV, s⟩]) (putD o.dst undefV fr) s)
    (doOp call fr s (fun v s' => evD call k hs (tr ++ [⟨true, fr, s, v, s'⟩]) (putD o.dst v fr) s') o.op) (wants fr o.guard) := by
  have h1 : ∀ (d : Option Pt) (op : HOp), opK op call fr s (fun v s' => putK d v fr (fun fr' => evD call k hs (tr ++ [⟨true, fr, s, v, s'⟩]) fr' s')) = doOp call fr s (fun v s' => evD call k hs (tr ++ [⟨true, fr, s, v, s'⟩]) (putD d v fr) s') op := fun d op => by
    show _ = opK op call fr s _
    congr 1
    funext v s'
    exact putK_eq _ _ _ _
  cases o with
  | mk d g op =>
    cases g with
    | none => exact h1 d op
    | some pb =>
      show Bool.rec (motive := fun _ => Res) (putK d undefV fr (fun fr' => evD call k hs (tr ++ [⟨false, fr, s, undefV, s⟩]) fr' s)) (opK op call fr s (fun v s' => putK d v fr (fun fr' => evD call k hs (tr ++ [⟨true, fr, s, v, s'⟩]) fr' s'))) (isB pb.2 (fr.get pb.1)) = Bool.rec (motive := fun _ => Res) _ _ (isB pb.2 (fr.get pb.1))
      rw [h1, putK_eq]

/-- equal values, bit by bit -/
def beqAddr : Option Addr → Option Addr → Bool
  | none, none => true
  | some a, some b => Nat.beq a.block b.block && Nat.beq a.off b.off && a.spot.isNone && b.spot.isNone
  | _, _ => false
def beqInt : Int → Int → Bool
  | .ofNat a, .ofNat b => Nat.beq a b
  | .negSucc a, .negSucc b => Nat.beq a b
  | _, _ => false
def beqBytes : List UInt8 → List UInt8 → Bool
  | [], [] => true
  | a :: x, b :: y => Nat.beq a.toNat b.toNat && beqBytes x y
  | _, _ => false
def beqK (a b : IntKind) : Bool := Nat.beq a.ctorIdx b.ctorIdx
mutual
def beqV : Nat → Value → Value → Bool
  | _ + 1, .bool a, .bool b => a == b
  | _ + 1, .int k a, .int j b => beqK k j && beqInt a b
  | _ + 1, .string a, .string b => beqBytes a.data.toList b.data.toList
  | _ + 1, .pointer a, .pointer b => beqAddr a b
  | _ + 1, .slice a l c, .slice b m d => beqAddr a b && Nat.beq l m && Nat.beq c d
  | _ + 1, .map none, .map none => true
  | _ + 1, .map (some a), .map (some b) => Nat.beq a b
  | _ + 1, .nilFunc, .nilFunc => true
  | _ + 1, .nilIface, .nilIface => true
  | n + 1, .iface t v, .iface u w => Nat.beq t u && beqV n v w
  | n + 1, .agg a, .agg b => beqVs n a.toList b.toList
  | n + 1, .tuple a, .tuple b => beqVs n a.toList b.toList
  | n + 1, .func (.func f) a b, .func (.func g) c d => Nat.beq f g && beqVs n a.toList c.toList && beqVs n b.toList d.toList
  | _ + 1, .complex .f32 a b, .complex .f32 c d => Nat.beq a c && Nat.beq b d
  | _ + 1, .complex .f64 a b, .complex .f64 c d => Nat.beq a c && Nat.beq b d
  | _, _, _ => false
def beqVs : Nat → List Value → List Value → Bool
  | _, [], [] => true
  | n + 1, a :: x, b :: y => beqV n a b && beqVs n x y
  | _, _, _ => false
end

/-- does a reading operation tell the same of a memory? -/
noncomputable def sameRead (o : HOp) (e : En) (s : M) : Bool :=
  HOp.rec (motive := fun _ => Bool) (fun _ => true) (fun _ _ => true) (fun _ _ _ => true) (fun _ _ => true)
    (fun f xs => match f (evs e.fr xs) s with | some v => beqV 1000 v e.v | none => false)
    (fun _ _ => true) (fun _ _ => true) (fun _ _ => true) (fun _ _ _ => true) true o

noncomputable def pairOk (ops : List HR) (tr : List En) (p : Nat × Nat) : Bool :=
  match ops[p.1]?, tr[p.1]?, tr[p.2]? with
  | some o, some r, some e => bif r.ran && e.ran then sameRead o.op r (bif Nat.blt p.1 p.2 then e.s' else e.s) else true
  | _, _, _ => false
noncomputable def pairsOk (ops : List HR) (tr : List En) (ps : List (Nat × Nat)) : Bool := ps.all (pairOk ops tr)

def condK (a b : Res) : Value → Res
  | .bool true => a
  | .bool false => b
  | _ => none
def blockK (id : Nat) (k : KE) : KE
  | .exit j, fr, s => bif Nat.beq j id then k .normal fr s else k (.exit j) fr s
  | e, fr, s => k e fr s
def seqK (n : Fr → M → Res) (k : KE) : KE
  | .normal, fr, s => n fr s
  | e, fr, s => k e fr s
noncomputable def loopF (n : Nat) (body : KE → Fr → M → Res) (k : KE) : Fr → M → Res :=
  Nat.rec (motive := fun _ => Fr → M → Res) (fun _ _ => none) (fun _ ih fr s => body (seqK ih k) fr s) n

def loopMost : Nat := 1000000

noncomputable def evC (call : CallF) (c : HC) : KE → Fr → M → Res :=
  HC.rec (motive := fun _ => KE → Fr → M → Res)
    (fun k fr s => k .normal fr s)
    (fun ops k fr s => evR call (k .normal) ops fr s)
    (fun ops ps k fr s => evD call (fun tr fr' s' => bif pairsOk ops tr ps then k .normal fr' s' else none) ops [] fr s)
    (fun _ _ iha ihb k fr s => iha (seqK (ihb k) k) fr s)
    (fun c _ _ iha ihb k fr s => condK (iha k fr s) (ihb k fr s) (ev fr c))
    (fun id _ ih k fr s => ih (blockK id k) fr s)
    (fun _ ih k fr s => loopF loopMost ih k fr s)
    (fun id k fr s => k (.exit id) fr s)
    (fun k fr s => k .ret fr s)
    (fun _ _ _ => none) c

inductive HRes | t (p : Pt) | cell (p : Pt) (agg : Bool) (n : Nat)

noncomputable def args0 : Nat → List Value → Fr → Fr
  | _, [], fr => fr
  | i, v :: vs, fr => args0 (i + 1) vs (fr.set (Pt.ofNat i) v)

noncomputable def takeN (n : Nat) : List Value → Option (List Value) :=
  Nat.rec (motive := fun _ => List Value → Option (List Value)) (fun _ => some [])
    (fun _ ih l => List.rec (motive := fun _ => Option (List Value)) none (fun c cs _ => Option.rec (motive := fun _ => Option (List Value)) none (fun r => some (c :: r)) (ih cs)) l) n
theorem takeN_zero (l : List Value) : takeN 0 l = some [] := rfl
theorem takeN_nil (n : Nat) : takeN (n + 1) [] = none := rfl
theorem takeN_cons (n : Nat) (c : Value) (cs : List Value) : takeN (n + 1) (c :: cs) = match takeN n cs with | some r => some (c :: r) | none => none := by
  show Option.rec (motive := fun _ => Option (List Value)) none (fun r => some (c :: r)) (takeN n cs) = _
  cases takeN n cs <;> rfl
noncomputable def dropN (n : Nat) : List Value → List Value :=
  Nat.rec (motive := fun _ => List Value → List Value) (fun l => l) (fun _ ih l => List.rec (motive := fun _ => List Value) [] (fun _ cs _ => ih cs) l) n
theorem dropN_eq : ∀ (n : Nat) (l : List Value), dropN n l = l.drop n
  | 0, l => rfl
  | n + 1, [] => rfl
  | n + 1, c :: cs => dropN_eq n cs
noncomputable def loadN (s : M) (b off : Nat) (n : Nat) : Option (List Value) :=
  match s.mem.get b with
  | .cells c => takeN n (dropN off c)
  | .ext c => takeN n (dropN off c)
  | _ => none
noncomputable def load1 (s : M) (a : Value) : Option Value :=
  match a with
  | .pointer (some a) => match loadN s a.block a.off 1 with | some [v] => some v | _ => none
  | _ => none
noncomputable def loadAgg (n : Nat) (s : M) (a : Value) : Option Value :=
  match a with
  | .pointer (some a) => match loadN s a.block a.off n with | some l => some (.agg ⟨l⟩) | _ => none
  | _ => none

noncomputable def resV (fr : Fr) (s : M) : HRes → Option Value
  | .t p => some (fr.get p)
  | .cell p false n => load1 s (fr.get p)
  | .cell p true n => loadAgg n s (fr.get p)
noncomputable def ress (fr : Fr) (s : M) : List HRes → Option (List Value)
  | [] => some []
  | r :: rs => match resV fr s r with
    | some v => (match ress fr s rs with | some l => some (v :: l) | none => none)
    | none => none
def tupleV : List Value → Value
  | [v] => v
  | vs => .tuple ⟨vs⟩
noncomputable def retK (res : List HRes) (k : KV) : KE
  | .exit _, _, _ => none
  | _, fr, s => match ress fr s res with
    | some vs => k (tupleV vs) s
    | none => none

/-! ### what the code is made into -/
structure TD where
  size : Nat
  agg : Bool
  zero : List Value
  desc : TypeDesc
  fields : List (Nat × Nat × Bool)

mutual
/-- values without places -/
def plain : Nat → Value → Bool
  | _ + 1, .bool _ | _ + 1, .int _ _ | _ + 1, .string _ | _ + 1, .pointer none | _ + 1, .map none | _ + 1, .nilFunc | _ + 1, .nilIface => true
  | _ + 1, .slice none 0 0 => true
  | n + 1, .iface _ v => plain n v
  | n + 1, .agg a => plains n a.toList
  | n + 1, .tuple a => plains n a.toList
  | n + 1, .func _ a b => plains n a.toList && plains n b.toList
  | _, _ => false
def plains : Nat → List Value → Bool
  | _, [] => true
  | n + 1, a :: x => plain n a && plains n x
  | _, _ => false
end

section
variable (G N : Nat)
def cOpd : Operand → Option Opd
  | .tmp t => bif Nat.blt t N then some (.t (.ofNat t)) else none
  | .const v => bif plain 100 v then some (.c v) else none
  | .global g => bif Nat.blt g G then some (.c (.pointer (some ⟨g, 0, none⟩))) else none
  | .func f => some (.c (.func (.func f) #[] #[]))
def cOpds : List Operand → Option (List Opd)
  | [] => some []
  | x :: xs => match cOpd G N x, cOpds xs with | some a, some b => some (a :: b) | _, _ => none
end
end Go.HM
