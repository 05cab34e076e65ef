import Derived.Test.YtdhcabbngddboaaGreatDoorHmN
set_option linter.unusedVariables false
set_option linter.unusedSimpArgs false
namespace Go.HM

/-- a function's body: code; a call put off till its end; a range over slices.Chunk, the last -/
inductive HB
  | code (c : HC)
  | seq (a : HC) (b : HB)
  | dfr (ops : List HR) (nt : Nat) (h : HC) (xs : List Opd) (b : HC)
  | chunk (sz : Nat) (fi : Nat) (g : Opd) (p : Pt) (asg body : HC)

structure HF where
  nt : Nat
  body : HB
  res : List HRes

/-- is the place ahead of the slice's end? -/
def chTest (l i : Value) : Option Bool :=
  match l with
  | .slice _ n _ => (match i with | .int .i64 m => some (ltZ m (.ofNat n)) | _ => none)
  | _ => none
/-- the piece of a slice from a place on -/
def chCut (sz : Nat) (l n i : Value) : Option Value :=
  match vSlice true false false sz [l, i] with
  | some t => (match vLenS t with
    | some q => (match vMin false [n, q] with
      | some e => (match bAdd i e with
        | some j => vSlice true true true sz [l, i, j, j]
        | none => none)
      | none => none)
    | none => none)
  | none => none
/-- behind a round: the place moves on -/
noncomputable def chNext (a2 : Value) (i : Value) (go : Value → M → Res) : KE
  | .normal, _, s => kO (fun n => kO (fun i' => go i' s) (bAdd i n)) (load1 s a2)
  | _, _, _ => none
noncomputable def chB (sz : Nat) (a2 : Value) (asg body : KE → Fr → M → Res) (p : Pt) (fr : Fr) (s : M) (l i : Value) (go : Value → M → Res) (k : M → Res) : Option Bool → Res
  | some true => kO (fun n => kO (fun c => asg (seqK (body (chNext a2 i go)) (chNext a2 i go)) (fr.set p c) s) (chCut sz l n i)) (load1 s a2)
  | some false => k s
  | none => none
noncomputable def chL (sz : Nat) (a1 a2 : Value) (asg body : KE → Fr → M → Res) (p : Pt) (fr : Fr) (k : M → Res) (n : Nat) : Value → M → Res :=
  Nat.rec (motive := fun _ => Value → M → Res) (fun _ _ => none) (fun _ ih i s => kO (fun l => chB sz a2 asg body p fr s l i ih k (chTest l i)) (load1 s a1)) n
/-- a range over slices.Chunk: over the closure of a function fi that has caught the slice and the pieces' size -/
noncomputable def chE (sz fi : Nat) (asg body : KE → Fr → M → Res) (p : Pt) (fr : Fr) (s : M) (k : M → Res) : Value → Res
  | .func (.func f) ⟨[]⟩ ⟨[a1, a2]⟩ => bif Nat.beq f fi then chL sz a1 a2 asg body p fr k loopMost (.int .i64 0) s else none
  | _ => none

noncomputable def dfrE (kr : KE) (fr : Fr) : KE
  | .exit _, _, _ => none
  | _, _, s => kr .ret fr s
noncomputable def dfrK (call : CallF) (nt : Nat) (h : HC) (args : List Value) (kr : KE) : KE
  | .exit _, _, _ => none
  | _, fr, s => bif Nat.ble args.length nt then evC call h (dfrE kr fr) (args0 0 args .lf) s else none

noncomputable def evB (call : CallF) (b : HB) (kr : KE) : Fr → M → Res :=
  HB.rec (motive := fun _ => Fr → M → Res)
    (fun c => evC call c kr)
    (fun a _ ih => evC call a (seqK ih kr))
    (fun ops nt h xs b => evR call (fun fr s => evC call b (dfrK call nt h (evs fr xs) kr) fr s) ops)
    (fun sz fi g p asg body fr s => chE sz fi (evC call asg) (evC call body) p fr s (fun s' => kr .normal fr s') (ev fr g)) b

/-- functions: by their code, or by something that answers for them -/
inductive FD
  | code (h : HF)
  | nat (f : CallF → List Value → M → KV → Res)

noncomputable def evF (fn : Nat → Option FD) (n : Nat) : CallF :=
  Nat.rec (motive := fun _ => CallF) (fun _ _ _ _ => none)
    (fun _ ih f args s k => Option.rec (motive := fun _ => Res) none
      (fun d => FD.rec (motive := fun _ => Res) (fun h => bif Nat.ble args.length h.nt then evB ih h.body (retK h.res k) (args0 0 args .lf) s else none) (fun g => g ih args s k) d) (fn f)) n
end Go.HM
