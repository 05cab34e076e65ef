import Derived.Test.YtdhcabbngddboaaGreatDoorRows
import Derived.LaidByTextLater
import Derived.SevenTiedAt
namespace Go.Proofs.YtdhcabbngddboaaGreatDoor
open Go
abbrev laidL : List (String × DataW Unit) := [("rabbet/play.errEnd", Rows.laid_rabbet_play_errEnd), ("rabbet/value.errShort", Rows.laid_rabbet_value_errShort), ("rabbet/cat.errForm", Rows.laid_rabbet_cat_errForm), ("rabbet/num.errShort", Rows.laid_rabbet_num_errShort), ("rabbet/num.errLong", Rows.laid_rabbet_num_errLong), ("rabbet/log.errForm", Rows.laid_rabbet_log_errForm), ("rabbet/tag.errForm", Rows.laid_rabbet_tag_errForm), ("rabbet/schema.errNone", Rows.laid_rabbet_schema_errNone), ("rabbet/schema.errArg", Rows.laid_rabbet_schema_errArg), ("rabbet/schema.errType", Rows.laid_rabbet_schema_errType), ("rabbet/schema.errExist", Rows.laid_rabbet_schema_errExist), ("rabbet/schema.errFull", Rows.laid_rabbet_schema_errFull), ("rabbet/space.errNone", Rows.laid_rabbet_space_errNone), ("rabbet/space.errHere", Rows.laid_rabbet_space_errHere), ("errors.errorType", Rows.laid_errors_errorType), ("rabbet/store.errFull", Rows.laid_rabbet_store_errFull), ("rabbet/plain.errForm", Rows.laid_rabbet_plain_errForm), ("rabbet/rle.errForm", Rows.laid_rabbet_rle_errForm), ("rabbet/dict.errForm", Rows.laid_rabbet_dict_errForm), ("rabbet/pack.errForm", Rows.laid_rabbet_pack_errForm), ("rabbet/delta.errForm", Rows.laid_rabbet_delta_errForm), ("rabbet/nulls.errForm", Rows.laid_rabbet_nulls_errForm), ("rabbet/agg.errArg", Rows.laid_rabbet_agg_errArg), ("rabbet/agg.errType", Rows.laid_rabbet_agg_errType), ("rabbet/agg.errOver", Rows.laid_rabbet_agg_errOver)]
abbrev kindsL : List LaidKind := [.sentinel, .sentinel, .sentinel, .sentinel, .sentinel, .sentinel, .sentinel, .sentinel, .sentinel, .sentinel, .sentinel, .sentinel, .sentinel, .sentinel, .handle, .sentinel, .sentinel, .sentinel, .sentinel, .sentinel, .sentinel, .sentinel, .sentinel, .sentinel, .sentinel]
end Go.Proofs.YtdhcabbngddboaaGreatDoor

namespace Go.Proofs.YtdhcabbngddboaaGreatDoor
open Go
theorem f1 : Tryz.prog.worded (varsWordLater true) = true := by kernel_rfl
theorem f2 : Tryz.prog.worded (varsWordLater !true) = false := by kernel_rfl
theorem f3 : Tryz.prog.worded rootWordLater = true := by kernel_rfl
theorem f4 : laidL.map (fun x => Tryz.prog.kindOfLater x.1) = kindsL.map some := by kernel_rfl
theorem f5 : (Tryz.prog.funcNamed "gosem.cut.vars").isSome = true := by kernel_rfl
theorem f6 : varsNamedLaterB Tryz.prog (varsId Tryz.prog) laidL = true := by kernel_rfl
end Go.Proofs.YtdhcabbngddboaaGreatDoor
