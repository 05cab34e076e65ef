/-
  NARROWER THAN 'FOR EVERY INPUT', by the rows' own cells (each row's printed sentence says how): PlayForms: laid.
  DERIVED. THE GIVEN ROWS OF THIS SEAT. 1 by the template 'for every input the law returns true; each argument reads behind the call as it read before'; 0 by the template 'total and deterministic' (their statements: YtdhcabbngddboaaGreatDoorTotals.lean).
  GIVEN WITH THE SEED: the statements are not yours to turn. If you find one false, say at which input.
  Laid BY PROGRAM, IN A SANDBOX (cutbox-rows.mjs): the forced cells as the released guide's own fill.sh prints them over the translation 9220d46ffbbe8187… (all of the seat's roots in one cut). By AI agents, Wed Nov 11 2026. No macro, syntax, notation, axiom, sorry.
-/
import Derived.Test.YtdhcabbngddboaaGreatDoorChecked
import GoSem.Claim
import GoSem.ClaimJoined
import GoSem.ClaimMapViews
import Derived.JoinedTies
import Derived.KernelRfl
namespace Go.Proofs.YtdhcabbngddboaaGreatDoor
/- THE CELL 'sum', in the pinned program and in every row, IS THE sha256 OF THE DUMP (.gsa) THAT YtdhcabbngddboaaGreatDoorProg.lean LOADS. Nothing in Lean hashes anything: it is a label: what it is worth is what the hold of that sum in a sandbox is worth. -/
noncomputable def Tryz.pinned : Pinned := { name := "ytdhcabbngddboaagreatdoor", sum := "9220d46ffbbe8187da18a0b894ba9086763a4dcbc412e7baa9425a2188b79e68", checked := Tryz.checked }
namespace Rows
def none {H : Type} : Left H := { results := [], args := [] }

/- WHAT THE LISTED PACKAGE-LEVEL VARIABLES READ AS WHEN THE CALL BEGINS. Each datum BY PROGRAM (the guide's laid-datum.mjs) off the statement by which the dump's own 'gosem.cut.vars' lays the variable. In a bare row this is a premise. The card (YtdhcabbngddboaaGreatDoorCards.lean) ties it to the program's text. -/
def laid_rabbet_play_errEnd {H : Type} : DataW H := .iface "*errors.errorString" (.ptr (.agg [.lit (.string [101, 110, 100, 115, 32, 116, 111, 111, 32, 115, 111, 111, 110, 44, 32, 111, 114, 32, 105, 115, 32, 110, 111, 32, 118, 97, 108, 117, 101])]))
def laid_rabbet_value_errShort {H : Type} : DataW H := .iface "*errors.errorString" (.ptr (.agg [.lit (.string [101, 110, 100, 115, 32, 116, 111, 111, 32, 115, 111, 111, 110])]))
def laid_rabbet_cat_errForm {H : Type} : DataW H := .iface "*errors.errorString" (.ptr (.agg [.lit (.string [100, 111, 101, 115, 32, 110, 111, 116, 32, 102, 105, 116])]))
def laid_rabbet_num_errShort {H : Type} : DataW H := .iface "*errors.errorString" (.ptr (.agg [.lit (.string [101, 110, 100, 115, 32, 116, 111, 111, 32, 115, 111, 111, 110])]))
def laid_rabbet_num_errLong {H : Type} : DataW H := .iface "*errors.errorString" (.ptr (.agg [.lit (.string [105, 115, 32, 110, 111, 116, 32, 97, 115, 32, 115, 104, 111, 114, 116, 32, 97, 115, 32, 109, 97, 121, 32, 98, 101])]))
def laid_rabbet_log_errForm {H : Type} : DataW H := .iface "*errors.errorString" (.ptr (.agg [.lit (.string [105, 115, 32, 110, 111, 32, 114, 101, 99, 111, 114, 100])]))
def laid_rabbet_tag_errForm {H : Type} : DataW H := .iface "*errors.errorString" (.ptr (.agg [.lit (.string [105, 115, 32, 110, 111, 116, 32, 119, 104, 111, 108, 101])]))
def laid_rabbet_schema_errNone {H : Type} : DataW H := .iface "*errors.errorString" (.ptr (.agg [.lit (.string [110, 111, 32, 115, 117, 99, 104, 32, 99, 111, 108, 117, 109, 110])]))
def laid_rabbet_schema_errArg {H : Type} : DataW H := .iface "*errors.errorString" (.ptr (.agg [.lit (.string [119, 104, 97, 116, 32, 109, 97, 121, 32, 110, 111, 116, 32, 98, 101])]))
def laid_rabbet_schema_errType {H : Type} : DataW H := .iface "*errors.errorString" (.ptr (.agg [.lit (.string [111, 102, 32, 97, 110, 111, 116, 104, 101, 114, 32, 116, 121, 112, 101])]))
def laid_rabbet_schema_errExist {H : Type} : DataW H := .iface "*errors.errorString" (.ptr (.agg [.lit (.string [116, 104, 101, 114, 101, 32, 97, 108, 114, 101, 97, 100, 121])]))
def laid_rabbet_schema_errFull {H : Type} : DataW H := .iface "*errors.errorString" (.ptr (.agg [.lit (.string [110, 111, 32, 114, 111, 111, 109])]))
def laid_rabbet_space_errNone {H : Type} : DataW H := .iface "*errors.errorString" (.ptr (.agg [.lit (.string [110, 111, 110, 101, 32, 111, 102, 32, 116, 104, 101, 115, 101, 32, 98, 108, 111, 99, 107, 115])]))
def laid_rabbet_space_errHere {H : Type} : DataW H := .iface "*errors.errorString" (.ptr (.agg [.lit (.string [116, 97, 107, 101, 110, 44, 32, 111, 114, 32, 110, 111, 116])]))
def laid_errors_errorType {H : Type} : DataW H := .iface "internal/reflectlite.rtype" (.agg [.ptr (.lit (.string [101, 114, 114, 111, 114]))])
def laid_rabbet_store_errFull {H : Type} : DataW H := .iface "*errors.errorString" (.ptr (.agg [.lit (.string [110, 111, 32, 114, 111, 111, 109])]))
def laid_rabbet_plain_errForm {H : Type} : DataW H := .iface "*errors.errorString" (.ptr (.agg [.lit (.string [115, 97, 121, 115, 32, 110, 111, 32, 99, 111, 108, 117, 109, 110])]))
def laid_rabbet_rle_errForm {H : Type} : DataW H := .iface "*errors.errorString" (.ptr (.agg [.lit (.string [115, 97, 121, 115, 32, 110, 111, 32, 99, 111, 108, 117, 109, 110])]))
def laid_rabbet_dict_errForm {H : Type} : DataW H := .iface "*errors.errorString" (.ptr (.agg [.lit (.string [115, 97, 121, 115, 32, 110, 111, 32, 99, 111, 108, 117, 109, 110])]))
def laid_rabbet_pack_errForm {H : Type} : DataW H := .iface "*errors.errorString" (.ptr (.agg [.lit (.string [115, 97, 121, 115, 32, 110, 111, 32, 99, 111, 108, 117, 109, 110])]))
def laid_rabbet_delta_errForm {H : Type} : DataW H := .iface "*errors.errorString" (.ptr (.agg [.lit (.string [115, 97, 121, 115, 32, 110, 111, 32, 99, 111, 108, 117, 109, 110])]))
def laid_rabbet_nulls_errForm {H : Type} : DataW H := .iface "*errors.errorString" (.ptr (.agg [.lit (.string [105, 115, 32, 110, 111, 116, 32, 111, 102, 32, 115, 111, 32, 109, 97, 110, 121])]))
def laid_rabbet_agg_errArg {H : Type} : DataW H := .iface "*errors.errorString" (.ptr (.agg [.lit (.string [119, 104, 97, 116, 32, 109, 97, 121, 32, 110, 111, 116, 32, 98, 101])]))
def laid_rabbet_agg_errType {H : Type} : DataW H := .iface "*errors.errorString" (.ptr (.agg [.lit (.string [111, 102, 32, 97, 110, 111, 116, 104, 101, 114, 32, 116, 121, 112, 101])]))
def laid_rabbet_agg_errOver {H : Type} : DataW H := .iface "*errors.errorString" (.ptr (.agg [.lit (.string [98, 101, 121, 111, 110, 100, 32, 105, 116, 115, 32, 110, 117, 109, 98, 101, 114, 115])]))

/-- 'rabbetlaw30.PlayForms': WHATEVER THE INPUT: true; the input reads as it did. -/
def playFormsSpec : ChangeSpec := { name := "playForms", fn := fun _ => fun
  | [] => { results := [.lit (.bool true)], args := [] }
  | _ => none }
def playFormsRow : OpenClaim := { program := "ytdhcabbngddboaagreatdoor", sum := "9220d46ffbbe8187da18a0b894ba9086763a4dcbc412e7baa9425a2188b79e68", func := "rabbet/rabbetlaw30.PlayForms", spec := "playForms", inPlace := ["internal/reflectlite.TypeOf", "slices.overlaps[rabbet/api.Column]", "slices.overlaps[int]", "internal/bytealg.IndexByteString", "slices.overlaps[rabbet/api.Value]", "internal/reflectlite.ValueOf", "(internal/reflectlite.Value).Type", "(internal/reflectlite.Value).IsNil", "(internal/reflectlite.Value).Elem", "(internal/reflectlite.Value).Set", "internal/bytealg.abigen_runtime_cmpstring", "math/bits.Add64"], unfollowed := true, recurses := true, named := ["rabbet/play.errEnd", "rabbet/value.errShort", "rabbet/cat.errForm", "rabbet/num.errShort", "rabbet/num.errLong", "rabbet/log.errForm", "rabbet/tag.errForm", "rabbet/schema.errNone", "rabbet/schema.errArg", "rabbet/schema.errType", "rabbet/schema.errExist", "rabbet/schema.errFull", "rabbet/space.errNone", "rabbet/space.errHere", "errors.errorType", "rabbet/store.errFull", "rabbet/plain.errForm", "rabbet/rle.errForm", "rabbet/dict.errForm", "rabbet/pack.errForm", "rabbet/delta.errForm", "rabbet/nulls.errForm", "rabbet/agg.errArg", "rabbet/agg.errType", "rabbet/agg.errOver"], apart := false, laid := [("rabbet/play.errEnd", laid_rabbet_play_errEnd), ("rabbet/value.errShort", laid_rabbet_value_errShort), ("rabbet/cat.errForm", laid_rabbet_cat_errForm), ("rabbet/num.errShort", laid_rabbet_num_errShort), ("rabbet/num.errLong", laid_rabbet_num_errLong), ("rabbet/log.errForm", laid_rabbet_log_errForm), ("rabbet/tag.errForm", laid_rabbet_tag_errForm), ("rabbet/schema.errNone", laid_rabbet_schema_errNone), ("rabbet/schema.errArg", laid_rabbet_schema_errArg), ("rabbet/schema.errType", laid_rabbet_schema_errType), ("rabbet/schema.errExist", laid_rabbet_schema_errExist), ("rabbet/schema.errFull", laid_rabbet_schema_errFull), ("rabbet/space.errNone", laid_rabbet_space_errNone), ("rabbet/space.errHere", laid_rabbet_space_errHere), ("errors.errorType", laid_errors_errorType), ("rabbet/store.errFull", laid_rabbet_store_errFull), ("rabbet/plain.errForm", laid_rabbet_plain_errForm), ("rabbet/rle.errForm", laid_rabbet_rle_errForm), ("rabbet/dict.errForm", laid_rabbet_dict_errForm), ("rabbet/pack.errForm", laid_rabbet_pack_errForm), ("rabbet/delta.errForm", laid_rabbet_delta_errForm), ("rabbet/nulls.errForm", laid_rabbet_nulls_errForm), ("rabbet/agg.errArg", laid_rabbet_agg_errArg), ("rabbet/agg.errType", laid_rabbet_agg_errType), ("rabbet/agg.errOver", laid_rabbet_agg_errOver)] }
def PlayFormsSaid : Prop := playFormsRow.holds Tryz.pinned (OpenSpec.ofChange playFormsSpec)

/-- ITS FALSE NEIGHBOUR: 'it returns false'. Refute it at one input. -/
def playFormsWrong : ChangeSpec := { name := "playForms", fn := fun _ => fun
  | [] => { results := [.lit (.bool false)], args := [] }
  | _ => none }
def PlayFormsWrongFalsely : Prop := playFormsRow.holds Tryz.pinned (OpenSpec.ofChange playFormsWrong)

/- THE SECOND FORM. 'bulk': how many values and letters a reading holds, each counted each time it is reached (what is shared counts as often as it is met; a slice's spare places count too). A statement '..UptoSaid' is the law's where the arguments, and the package variables that the reading takes, are together of bulk at most 1048576: NARROWER than '..Said'. Prove '..Said' where nothing that the law and all that it calls make is longer than what came in: it says more and counts as full. Else prove '..UptoSaid'. A law counts once. -/
mutual
def uptoBulk {H : Type} : DataW H → Nat
  | .lit (.string bytes) => bytes.length + 1
  | .lit _ => 1
  | .nil => 1
  | .ptr d => uptoBulk d + 1
  | .slice elems spare => uptoBulkAll elems + uptoBulkAll spare + 1
  | .agg parts => uptoBulkAll parts + 1
  | .iface _ d => uptoBulk d + 1
  | .map entries => uptoBulkEntries entries + 1
  | .held _ => 1
def uptoBulkAll {H : Type} : List (DataW H) → Nat
  | [] => 0
  | d :: r => uptoBulk d + uptoBulkAll r
def uptoBulkEntries {H : Type} : List (Lit × DataW H) → Nat
  | [] => 0
  | x :: r => uptoBulkEntry x + uptoBulkEntries r
def uptoBulkEntry {H : Type} : Lit × DataW H → Nat
  | (.string bytes, d) => bytes.length + uptoBulk d + 1
  | (_, d) => uptoBulk d + 1
 end
def uptoSmall : (H : Type) → List (DataW H) → Bool := fun _ ds => decide (uptoBulkAll ds ≤ 1048576)
def OpenSpec.upto (s : _root_.Go.ChangeSpec) : _root_.Go.OpenSpec := { _root_.Go.OpenSpec.ofChange s with cond := some uptoSmall }

/-- 'rabbetlaw30.PlayForms', WHERE WHAT IT READS IS OF BULK AT MOST 1048576: true; the input reads as it did. -/
def playFormsUptoRow : OpenClaim := { program := "ytdhcabbngddboaagreatdoor", sum := "9220d46ffbbe8187da18a0b894ba9086763a4dcbc412e7baa9425a2188b79e68", func := "rabbet/rabbetlaw30.PlayForms", spec := "playForms", inPlace := ["internal/reflectlite.TypeOf", "slices.overlaps[rabbet/api.Column]", "slices.overlaps[int]", "internal/bytealg.IndexByteString", "slices.overlaps[rabbet/api.Value]", "internal/reflectlite.ValueOf", "(internal/reflectlite.Value).Type", "(internal/reflectlite.Value).IsNil", "(internal/reflectlite.Value).Elem", "(internal/reflectlite.Value).Set", "internal/bytealg.abigen_runtime_cmpstring", "math/bits.Add64"], unfollowed := true, recurses := true, named := ["rabbet/play.errEnd", "rabbet/value.errShort", "rabbet/cat.errForm", "rabbet/num.errShort", "rabbet/num.errLong", "rabbet/log.errForm", "rabbet/tag.errForm", "rabbet/schema.errNone", "rabbet/schema.errArg", "rabbet/schema.errType", "rabbet/schema.errExist", "rabbet/schema.errFull", "rabbet/space.errNone", "rabbet/space.errHere", "errors.errorType", "rabbet/store.errFull", "rabbet/plain.errForm", "rabbet/rle.errForm", "rabbet/dict.errForm", "rabbet/pack.errForm", "rabbet/delta.errForm", "rabbet/nulls.errForm", "rabbet/agg.errArg", "rabbet/agg.errType", "rabbet/agg.errOver"], apart := false, laid := [("rabbet/play.errEnd", laid_rabbet_play_errEnd), ("rabbet/value.errShort", laid_rabbet_value_errShort), ("rabbet/cat.errForm", laid_rabbet_cat_errForm), ("rabbet/num.errShort", laid_rabbet_num_errShort), ("rabbet/num.errLong", laid_rabbet_num_errLong), ("rabbet/log.errForm", laid_rabbet_log_errForm), ("rabbet/tag.errForm", laid_rabbet_tag_errForm), ("rabbet/schema.errNone", laid_rabbet_schema_errNone), ("rabbet/schema.errArg", laid_rabbet_schema_errArg), ("rabbet/schema.errType", laid_rabbet_schema_errType), ("rabbet/schema.errExist", laid_rabbet_schema_errExist), ("rabbet/schema.errFull", laid_rabbet_schema_errFull), ("rabbet/space.errNone", laid_rabbet_space_errNone), ("rabbet/space.errHere", laid_rabbet_space_errHere), ("errors.errorType", laid_errors_errorType), ("rabbet/store.errFull", laid_rabbet_store_errFull), ("rabbet/plain.errForm", laid_rabbet_plain_errForm), ("rabbet/rle.errForm", laid_rabbet_rle_errForm), ("rabbet/dict.errForm", laid_rabbet_dict_errForm), ("rabbet/pack.errForm", laid_rabbet_pack_errForm), ("rabbet/delta.errForm", laid_rabbet_delta_errForm), ("rabbet/nulls.errForm", laid_rabbet_nulls_errForm), ("rabbet/agg.errArg", laid_rabbet_agg_errArg), ("rabbet/agg.errType", laid_rabbet_agg_errType), ("rabbet/agg.errOver", laid_rabbet_agg_errOver)], narrowed := true }
def PlayFormsUptoSaid : Prop := playFormsUptoRow.holds Tryz.pinned (OpenSpec.upto playFormsSpec)

end Rows
end Go.Proofs.YtdhcabbngddboaaGreatDoor
