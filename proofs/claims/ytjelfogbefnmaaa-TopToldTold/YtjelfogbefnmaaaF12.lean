/- A part of the proof: F12. -/
import Derived.Test.YtjelfogbefnmaaaProg
import Derived.Test.YtjelfogbefnmaaaAbs20
set_option linter.unusedVariables false
set_option linter.unusedSimpArgs false
set_option maxRecDepth 20000
namespace S12
open Go Abs
@[go_sem] theorem lay_1 : lay Go.Proofs.Try.prog 1 = some (false, 1) := by kernel_rfl
@[go_sem] theorem zer_1 : zeros Go.Proofs.Try.prog 1 = some [.val .nilFunc] := by kernel_rfl
@[go_sem] theorem byt_1 : (Go.Proofs.Try.prog).bytesOf 1 = 8 := by kernel_rfl
@[go_sem] theorem lay_2 : lay Go.Proofs.Try.prog 2 = some (false, 1) := by kernel_rfl
@[go_sem] theorem und_2 : (Go.Proofs.Try.prog).underlying 2 = some (.int .i64) := by kernel_rfl
@[go_sem] theorem zer_2 : zeros Go.Proofs.Try.prog 2 = some [.val (.int .i64 0)] := by kernel_rfl
@[go_sem] theorem byt_2 : (Go.Proofs.Try.prog).bytesOf 2 = 8 := by kernel_rfl
@[go_sem] theorem lay_3 : lay Go.Proofs.Try.prog 3 = some (false, 1) := by kernel_rfl
@[go_sem] theorem und_3 : (Go.Proofs.Try.prog).underlying 3 = some (.int .i64) := by kernel_rfl
@[go_sem] theorem zer_3 : zeros Go.Proofs.Try.prog 3 = some [.val (.int .i64 0)] := by kernel_rfl
@[go_sem] theorem byt_3 : (Go.Proofs.Try.prog).bytesOf 3 = 8 := by kernel_rfl
@[go_sem] theorem lay_4 : lay Go.Proofs.Try.prog 4 = some (false, 1) := by kernel_rfl
@[go_sem] theorem und_4 : (Go.Proofs.Try.prog).underlying 4 = some (.bool) := by kernel_rfl
@[go_sem] theorem zer_4 : zeros Go.Proofs.Try.prog 4 = some [.val (.bool false)] := by kernel_rfl
@[go_sem] theorem bty_4 : boolTy Go.Proofs.Try.prog 4 = true := by kernel_rfl
@[go_sem] theorem byt_4 : (Go.Proofs.Try.prog).bytesOf 4 = 1 := by kernel_rfl
@[go_sem] theorem lay_5 : lay Go.Proofs.Try.prog 5 = some (false, 1) := by kernel_rfl
@[go_sem] theorem und_5 : (Go.Proofs.Try.prog).underlying 5 = some (.int .u8) := by kernel_rfl
@[go_sem] theorem zer_5 : zeros Go.Proofs.Try.prog 5 = some [.val (.int .u8 0)] := by kernel_rfl
@[go_sem] theorem byt_5 : (Go.Proofs.Try.prog).bytesOf 5 = 1 := by kernel_rfl
@[go_sem] theorem lay_9 : lay Go.Proofs.Try.prog 9 = some (false, 1) := by kernel_rfl
@[go_sem] theorem zer_9 : zeros Go.Proofs.Try.prog 9 = some [.val (.string ByteArray.empty)] := by kernel_rfl
@[go_sem] theorem byt_9 : (Go.Proofs.Try.prog).bytesOf 9 = 16 := by kernel_rfl
@[go_sem] theorem lay_12 : lay Go.Proofs.Try.prog 12 = some (false, 1) := by kernel_rfl
@[go_sem] theorem und_12 : (Go.Proofs.Try.prog).underlying 12 = some (.int .u64) := by kernel_rfl
@[go_sem] theorem zer_12 : zeros Go.Proofs.Try.prog 12 = some [.val (.int .u64 0)] := by kernel_rfl
@[go_sem] theorem byt_12 : (Go.Proofs.Try.prog).bytesOf 12 = 8 := by kernel_rfl
@[go_sem] theorem lay_13 : lay Go.Proofs.Try.prog 13 = some (true, 2) := by kernel_rfl
@[go_sem] theorem fld_13_0 : fld Go.Proofs.Try.prog 13 0 = some (0, false, 1) := by kernel_rfl
@[go_sem] theorem fld_13_1 : fld Go.Proofs.Try.prog 13 1 = some (1, false, 1) := by kernel_rfl
@[go_sem] theorem plc_13 : placesOf Go.Proofs.Try.prog 13 = some (#[(0, 1), (1, 1)][·]?) := by kernel_rfl
@[go_sem] theorem zer_13 : zeros Go.Proofs.Try.prog 13 = some [.val (.string ByteArray.empty), .val (.int .u64 0)] := by kernel_rfl
@[go_sem] theorem byt_13 : (Go.Proofs.Try.prog).bytesOf 13 = 24 := by kernel_rfl
@[go_sem] theorem lay_21 : lay Go.Proofs.Try.prog 21 = some (false, 1) := by kernel_rfl
@[go_sem] theorem und_21 : (Go.Proofs.Try.prog).underlying 21 = some (.int .i32) := by kernel_rfl
@[go_sem] theorem zer_21 : zeros Go.Proofs.Try.prog 21 = some [.val (.int .i32 0)] := by kernel_rfl
@[go_sem] theorem byt_21 : (Go.Proofs.Try.prog).bytesOf 21 = 4 := by kernel_rfl
@[go_sem] theorem lay_22 : lay Go.Proofs.Try.prog 22 = some (true, 2) := by kernel_rfl
@[go_sem] theorem und_22 : (Go.Proofs.Try.prog).underlying 22 = some (.array 2 5) := by kernel_rfl
@[go_sem] theorem idx_22 : idx Go.Proofs.Try.prog 22 = some (some 2, 5, false, 1) := by kernel_rfl
@[go_sem] theorem plc_22 : placesOf Go.Proofs.Try.prog 22 = some (fun i => some (i * 1, 1)) := by kernel_rfl
@[go_sem] theorem zer_22 : zeros Go.Proofs.Try.prog 22 = some [.val (.int .u8 0), .val (.int .u8 0)] := by kernel_rfl
@[go_sem] theorem byt_22 : (Go.Proofs.Try.prog).bytesOf 22 = 2 := by kernel_rfl
@[go_sem] theorem lay_23 : lay Go.Proofs.Try.prog 23 = some (false, 1) := by kernel_rfl
@[go_sem] theorem und_23 : (Go.Proofs.Try.prog).underlying 23 = some (.slice 5) := by kernel_rfl
@[go_sem] theorem idx_23 : idx Go.Proofs.Try.prog 23 = some (none, 5, false, 1) := by kernel_rfl
@[go_sem] theorem zer_23 : zeros Go.Proofs.Try.prog 23 = some [.val (.slice none 0 0)] := by kernel_rfl
@[go_sem] theorem byt_23 : (Go.Proofs.Try.prog).bytesOf 23 = 24 := by kernel_rfl
@[go_sem] theorem lay_24 : lay Go.Proofs.Try.prog 24 = some (false, 1) := by kernel_rfl
@[go_sem] theorem und_24 : (Go.Proofs.Try.prog).underlying 24 = some (.int .u16) := by kernel_rfl
@[go_sem] theorem zer_24 : zeros Go.Proofs.Try.prog 24 = some [.val (.int .u16 0)] := by kernel_rfl
@[go_sem] theorem byt_24 : (Go.Proofs.Try.prog).bytesOf 24 = 2 := by kernel_rfl
@[go_sem] theorem lay_25 : lay Go.Proofs.Try.prog 25 = some (false, 1) := by kernel_rfl
@[go_sem] theorem und_25 : (Go.Proofs.Try.prog).underlying 25 = some (.slice 105) := by kernel_rfl
@[go_sem] theorem idx_25 : idx Go.Proofs.Try.prog 25 = some (none, 105, true, 5) := by kernel_rfl
@[go_sem] theorem zer_25 : zeros Go.Proofs.Try.prog 25 = some [.val (.slice none 0 0)] := by kernel_rfl
@[go_sem] theorem byt_25 : (Go.Proofs.Try.prog).bytesOf 25 = 24 := by kernel_rfl
@[go_sem] theorem lay_26 : lay Go.Proofs.Try.prog 26 = some (true, 3) := by kernel_rfl
@[go_sem] theorem fld_26_0 : fld Go.Proofs.Try.prog 26 0 = some (0, false, 1) := by kernel_rfl
@[go_sem] theorem fld_26_1 : fld Go.Proofs.Try.prog 26 1 = some (1, false, 1) := by kernel_rfl
@[go_sem] theorem fld_26_2 : fld Go.Proofs.Try.prog 26 2 = some (2, false, 1) := by kernel_rfl
@[go_sem] theorem plc_26 : placesOf Go.Proofs.Try.prog 26 = some (#[(0, 1), (1, 1), (2, 1)][·]?) := by kernel_rfl
@[go_sem] theorem zer_26 : zeros Go.Proofs.Try.prog 26 = some [.val (.slice none 0 0), .val (.int .i64 0), .val (.int .i64 0)] := by kernel_rfl
@[go_sem] theorem byt_26 : (Go.Proofs.Try.prog).bytesOf 26 = 40 := by kernel_rfl
@[go_sem] theorem lay_27 : lay Go.Proofs.Try.prog 27 = some (true, 3) := by kernel_rfl
@[go_sem] theorem fld_27_0 : fld Go.Proofs.Try.prog 27 0 = some (0, false, 1) := by kernel_rfl
@[go_sem] theorem fld_27_1 : fld Go.Proofs.Try.prog 27 1 = some (1, false, 1) := by kernel_rfl
@[go_sem] theorem fld_27_2 : fld Go.Proofs.Try.prog 27 2 = some (2, false, 1) := by kernel_rfl
@[go_sem] theorem plc_27 : placesOf Go.Proofs.Try.prog 27 = some (#[(0, 1), (1, 1), (2, 1)][·]?) := by kernel_rfl
@[go_sem] theorem zer_27 : zeros Go.Proofs.Try.prog 27 = some [.val (.slice none 0 0), .val (.int .i64 0), .val (.int .i64 0)] := by kernel_rfl
@[go_sem] theorem byt_27 : (Go.Proofs.Try.prog).bytesOf 27 = 40 := by kernel_rfl
@[go_sem] theorem lay_28 : lay Go.Proofs.Try.prog 28 = some (false, 1) := by kernel_rfl
@[go_sem] theorem und_28 : (Go.Proofs.Try.prog).underlying 28 = some (.slice 54) := by kernel_rfl
@[go_sem] theorem idx_28 : idx Go.Proofs.Try.prog 28 = some (none, 54, true, 2) := by kernel_rfl
@[go_sem] theorem zer_28 : zeros Go.Proofs.Try.prog 28 = some [.val (.slice none 0 0)] := by kernel_rfl
@[go_sem] theorem byt_28 : (Go.Proofs.Try.prog).bytesOf 28 = 24 := by kernel_rfl
@[go_sem] theorem lay_29 : lay Go.Proofs.Try.prog 29 = some (false, 1) := by kernel_rfl
@[go_sem] theorem und_29 : (Go.Proofs.Try.prog).underlying 29 = some (.slice 3) := by kernel_rfl
@[go_sem] theorem idx_29 : idx Go.Proofs.Try.prog 29 = some (none, 3, false, 1) := by kernel_rfl
@[go_sem] theorem zer_29 : zeros Go.Proofs.Try.prog 29 = some [.val (.slice none 0 0)] := by kernel_rfl
@[go_sem] theorem byt_29 : (Go.Proofs.Try.prog).bytesOf 29 = 24 := by kernel_rfl
@[go_sem] theorem lay_30 : lay Go.Proofs.Try.prog 30 = some (false, 1) := by kernel_rfl
@[go_sem] theorem und_30 : (Go.Proofs.Try.prog).underlying 30 = some (.slice 92) := by kernel_rfl
@[go_sem] theorem idx_30 : idx Go.Proofs.Try.prog 30 = some (none, 92, true, 3) := by kernel_rfl
@[go_sem] theorem zer_30 : zeros Go.Proofs.Try.prog 30 = some [.val (.slice none 0 0)] := by kernel_rfl
@[go_sem] theorem byt_30 : (Go.Proofs.Try.prog).bytesOf 30 = 24 := by kernel_rfl
@[go_sem] theorem lay_31 : lay Go.Proofs.Try.prog 31 = some (false, 1) := by kernel_rfl
@[go_sem] theorem und_31 : (Go.Proofs.Try.prog).underlying 31 = some (.slice 67) := by kernel_rfl
@[go_sem] theorem idx_31 : idx Go.Proofs.Try.prog 31 = some (none, 67, true, 1) := by kernel_rfl
@[go_sem] theorem zer_31 : zeros Go.Proofs.Try.prog 31 = some [.val (.slice none 0 0)] := by kernel_rfl
@[go_sem] theorem byt_31 : (Go.Proofs.Try.prog).bytesOf 31 = 24 := by kernel_rfl
@[go_sem] theorem lay_32 : lay Go.Proofs.Try.prog 32 = some (false, 1) := by kernel_rfl
@[go_sem] theorem und_32 : (Go.Proofs.Try.prog).underlying 32 = some (.slice 69) := by kernel_rfl
@[go_sem] theorem idx_32 : idx Go.Proofs.Try.prog 32 = some (none, 69, true, 3) := by kernel_rfl
@[go_sem] theorem zer_32 : zeros Go.Proofs.Try.prog 32 = some [.val (.slice none 0 0)] := by kernel_rfl
@[go_sem] theorem byt_32 : (Go.Proofs.Try.prog).bytesOf 32 = 24 := by kernel_rfl
@[go_sem] theorem lay_33 : lay Go.Proofs.Try.prog 33 = some (true, 4) := by kernel_rfl
@[go_sem] theorem fld_33_0 : fld Go.Proofs.Try.prog 33 0 = some (0, false, 1) := by kernel_rfl
@[go_sem] theorem fld_33_1 : fld Go.Proofs.Try.prog 33 1 = some (1, false, 1) := by kernel_rfl
@[go_sem] theorem fld_33_2 : fld Go.Proofs.Try.prog 33 2 = some (2, false, 1) := by kernel_rfl
@[go_sem] theorem fld_33_3 : fld Go.Proofs.Try.prog 33 3 = some (3, false, 1) := by kernel_rfl
@[go_sem] theorem plc_33 : placesOf Go.Proofs.Try.prog 33 = some (#[(0, 1), (1, 1), (2, 1), (3, 1)][·]?) := by kernel_rfl
@[go_sem] theorem zer_33 : zeros Go.Proofs.Try.prog 33 = some [.val (.slice none 0 0), .val (.slice none 0 0), .val (.slice none 0 0), .val (.slice none 0 0)] := by kernel_rfl
@[go_sem] theorem byt_33 : (Go.Proofs.Try.prog).bytesOf 33 = 96 := by kernel_rfl
@[go_sem] theorem lay_34 : lay Go.Proofs.Try.prog 34 = some (true, 4) := by kernel_rfl
@[go_sem] theorem fld_34_0 : fld Go.Proofs.Try.prog 34 0 = some (0, false, 1) := by kernel_rfl
@[go_sem] theorem fld_34_1 : fld Go.Proofs.Try.prog 34 1 = some (1, false, 1) := by kernel_rfl
@[go_sem] theorem fld_34_2 : fld Go.Proofs.Try.prog 34 2 = some (2, false, 1) := by kernel_rfl
@[go_sem] theorem fld_34_3 : fld Go.Proofs.Try.prog 34 3 = some (3, false, 1) := by kernel_rfl
@[go_sem] theorem plc_34 : placesOf Go.Proofs.Try.prog 34 = some (#[(0, 1), (1, 1), (2, 1), (3, 1)][·]?) := by kernel_rfl
@[go_sem] theorem zer_34 : zeros Go.Proofs.Try.prog 34 = some [.val (.slice none 0 0), .val (.slice none 0 0), .val (.slice none 0 0), .val (.slice none 0 0)] := by kernel_rfl
@[go_sem] theorem byt_34 : (Go.Proofs.Try.prog).bytesOf 34 = 96 := by kernel_rfl
@[go_sem] theorem lay_36 : lay Go.Proofs.Try.prog 36 = some (false, 1) := by kernel_rfl
@[go_sem] theorem zer_36 : zeros Go.Proofs.Try.prog 36 = some [.val .nilFunc] := by kernel_rfl
@[go_sem] theorem byt_36 : (Go.Proofs.Try.prog).bytesOf 36 = 8 := by kernel_rfl
@[go_sem] theorem lay_37 : lay Go.Proofs.Try.prog 37 = some (true, 2) := by kernel_rfl
@[go_sem] theorem fld_37_0 : fld Go.Proofs.Try.prog 37 0 = some (0, false, 1) := by kernel_rfl
@[go_sem] theorem fld_37_1 : fld Go.Proofs.Try.prog 37 1 = some (1, false, 1) := by kernel_rfl
@[go_sem] theorem plc_37 : placesOf Go.Proofs.Try.prog 37 = some (#[(0, 1), (1, 1)][·]?) := by kernel_rfl
@[go_sem] theorem flat_37 : flatInts Go.Proofs.Try.prog 37 = some 2 := by kernel_rfl
@[go_sem] theorem zer_37 : zeros Go.Proofs.Try.prog 37 = some [.val (.int .i64 0), .val (.int .i64 0)] := by kernel_rfl
@[go_sem] theorem byt_37 : (Go.Proofs.Try.prog).bytesOf 37 = 16 := by kernel_rfl
@[go_sem] theorem lay_38 : lay Go.Proofs.Try.prog 38 = some (true, 2) := by kernel_rfl
@[go_sem] theorem fld_38_0 : fld Go.Proofs.Try.prog 38 0 = some (0, false, 1) := by kernel_rfl
@[go_sem] theorem fld_38_1 : fld Go.Proofs.Try.prog 38 1 = some (1, false, 1) := by kernel_rfl
@[go_sem] theorem plc_38 : placesOf Go.Proofs.Try.prog 38 = some (#[(0, 1), (1, 1)][·]?) := by kernel_rfl
@[go_sem] theorem flat_38 : flatInts Go.Proofs.Try.prog 38 = some 2 := by kernel_rfl
@[go_sem] theorem zer_38 : zeros Go.Proofs.Try.prog 38 = some [.val (.int .i64 0), .val (.int .i64 0)] := by kernel_rfl
@[go_sem] theorem byt_38 : (Go.Proofs.Try.prog).bytesOf 38 = 16 := by kernel_rfl
@[go_sem] theorem lay_39 : lay Go.Proofs.Try.prog 39 = some (false, 1) := by kernel_rfl
@[go_sem] theorem zer_39 : zeros Go.Proofs.Try.prog 39 = some [.val .nilFunc] := by kernel_rfl
@[go_sem] theorem byt_39 : (Go.Proofs.Try.prog).bytesOf 39 = 8 := by kernel_rfl
@[go_sem] theorem lay_40 : lay Go.Proofs.Try.prog 40 = some (false, 1) := by kernel_rfl
@[go_sem] theorem und_40 : (Go.Proofs.Try.prog).underlying 40 = some (.slice 38) := by kernel_rfl
@[go_sem] theorem idx_40 : idx Go.Proofs.Try.prog 40 = some (none, 38, true, 2) := by kernel_rfl
@[go_sem] theorem zer_40 : zeros Go.Proofs.Try.prog 40 = some [.val (.slice none 0 0)] := by kernel_rfl
@[go_sem] theorem byt_40 : (Go.Proofs.Try.prog).bytesOf 40 = 24 := by kernel_rfl
@[go_sem] theorem lay_41 : lay Go.Proofs.Try.prog 41 = some (false, 1) := by kernel_rfl
@[go_sem] theorem und_41 : (Go.Proofs.Try.prog).underlying 41 = some (.int .i64) := by kernel_rfl
@[go_sem] theorem zer_41 : zeros Go.Proofs.Try.prog 41 = some [.val (.int .i64 0)] := by kernel_rfl
@[go_sem] theorem byt_41 : (Go.Proofs.Try.prog).bytesOf 41 = 8 := by kernel_rfl
@[go_sem] theorem lay_43 : lay Go.Proofs.Try.prog 43 = some (false, 1) := by kernel_rfl
@[go_sem] theorem zer_43 : zeros Go.Proofs.Try.prog 43 = some [.val .nilFunc] := by kernel_rfl
@[go_sem] theorem byt_43 : (Go.Proofs.Try.prog).bytesOf 43 = 8 := by kernel_rfl
@[go_sem] theorem lay_44 : lay Go.Proofs.Try.prog 44 = some (false, 1) := by kernel_rfl
@[go_sem] theorem zer_44 : zeros Go.Proofs.Try.prog 44 = some [.val .nilFunc] := by kernel_rfl
@[go_sem] theorem byt_44 : (Go.Proofs.Try.prog).bytesOf 44 = 8 := by kernel_rfl
@[go_sem] theorem lay_46 : lay Go.Proofs.Try.prog 46 = some (false, 1) := by kernel_rfl
@[go_sem] theorem zer_46 : zeros Go.Proofs.Try.prog 46 = some [.val .nilFunc] := by kernel_rfl
@[go_sem] theorem byt_46 : (Go.Proofs.Try.prog).bytesOf 46 = 8 := by kernel_rfl
@[go_sem] theorem lay_47 : lay Go.Proofs.Try.prog 47 = some (false, 1) := by kernel_rfl
@[go_sem] theorem zer_47 : zeros Go.Proofs.Try.prog 47 = some [.val .nilFunc] := by kernel_rfl
@[go_sem] theorem byt_47 : (Go.Proofs.Try.prog).bytesOf 47 = 8 := by kernel_rfl
@[go_sem] theorem lay_48 : lay Go.Proofs.Try.prog 48 = some (false, 1) := by kernel_rfl
@[go_sem] theorem zer_48 : zeros Go.Proofs.Try.prog 48 = some [.val .nilFunc] := by kernel_rfl
@[go_sem] theorem byt_48 : (Go.Proofs.Try.prog).bytesOf 48 = 8 := by kernel_rfl
@[go_sem] theorem lay_49 : lay Go.Proofs.Try.prog 49 = some (false, 1) := by kernel_rfl
@[go_sem] theorem zer_49 : zeros Go.Proofs.Try.prog 49 = some [.val .nilFunc] := by kernel_rfl
@[go_sem] theorem byt_49 : (Go.Proofs.Try.prog).bytesOf 49 = 8 := by kernel_rfl
@[go_sem] theorem lay_50 : lay Go.Proofs.Try.prog 50 = some (false, 1) := by kernel_rfl
@[go_sem] theorem zer_50 : zeros Go.Proofs.Try.prog 50 = some [.val .nilFunc] := by kernel_rfl
@[go_sem] theorem byt_50 : (Go.Proofs.Try.prog).bytesOf 50 = 8 := by kernel_rfl
@[go_sem] theorem lay_51 : lay Go.Proofs.Try.prog 51 = some (false, 1) := by kernel_rfl
@[go_sem] theorem zer_51 : zeros Go.Proofs.Try.prog 51 = some [.val .nilFunc] := by kernel_rfl
@[go_sem] theorem byt_51 : (Go.Proofs.Try.prog).bytesOf 51 = 8 := by kernel_rfl
@[go_sem] theorem lay_52 : lay Go.Proofs.Try.prog 52 = some (true, 2) := by kernel_rfl
@[go_sem] theorem und_52 : (Go.Proofs.Try.prog).underlying 52 = some (.array 2 24) := by kernel_rfl
@[go_sem] theorem idx_52 : idx Go.Proofs.Try.prog 52 = some (some 2, 24, false, 1) := by kernel_rfl
@[go_sem] theorem plc_52 : placesOf Go.Proofs.Try.prog 52 = some (fun i => some (i * 1, 1)) := by kernel_rfl
@[go_sem] theorem zer_52 : zeros Go.Proofs.Try.prog 52 = some [.val (.int .u16 0), .val (.int .u16 0)] := by kernel_rfl
@[go_sem] theorem byt_52 : (Go.Proofs.Try.prog).bytesOf 52 = 4 := by kernel_rfl
@[go_sem] theorem lay_53 : lay Go.Proofs.Try.prog 53 = some (true, 2) := by kernel_rfl
@[go_sem] theorem fld_53_0 : fld Go.Proofs.Try.prog 53 0 = some (0, false, 1) := by kernel_rfl
@[go_sem] theorem fld_53_1 : fld Go.Proofs.Try.prog 53 1 = some (1, false, 1) := by kernel_rfl
@[go_sem] theorem plc_53 : placesOf Go.Proofs.Try.prog 53 = some (#[(0, 1), (1, 1)][·]?) := by kernel_rfl
@[go_sem] theorem zer_53 : zeros Go.Proofs.Try.prog 53 = some [.val (.int .i64 0), .val (.slice none 0 0)] := by kernel_rfl
@[go_sem] theorem byt_53 : (Go.Proofs.Try.prog).bytesOf 53 = 32 := by kernel_rfl
@[go_sem] theorem lay_54 : lay Go.Proofs.Try.prog 54 = some (true, 2) := by kernel_rfl
@[go_sem] theorem fld_54_0 : fld Go.Proofs.Try.prog 54 0 = some (0, false, 1) := by kernel_rfl
@[go_sem] theorem fld_54_1 : fld Go.Proofs.Try.prog 54 1 = some (1, false, 1) := by kernel_rfl
@[go_sem] theorem plc_54 : placesOf Go.Proofs.Try.prog 54 = some (#[(0, 1), (1, 1)][·]?) := by kernel_rfl
@[go_sem] theorem zer_54 : zeros Go.Proofs.Try.prog 54 = some [.val (.int .i64 0), .val (.slice none 0 0)] := by kernel_rfl
@[go_sem] theorem byt_54 : (Go.Proofs.Try.prog).bytesOf 54 = 32 := by kernel_rfl
@[go_sem] theorem lay_55 : lay Go.Proofs.Try.prog 55 = some (false, 1) := by kernel_rfl
@[go_sem] theorem zer_55 : zeros Go.Proofs.Try.prog 55 = some [.val .nilFunc] := by kernel_rfl
@[go_sem] theorem byt_55 : (Go.Proofs.Try.prog).bytesOf 55 = 8 := by kernel_rfl
@[go_sem] theorem lay_56 : lay Go.Proofs.Try.prog 56 = some (true, 4) := by kernel_rfl
@[go_sem] theorem fld_56_0 : fld Go.Proofs.Try.prog 56 0 = some (0, false, 1) := by kernel_rfl
@[go_sem] theorem fld_56_1 : fld Go.Proofs.Try.prog 56 1 = some (1, false, 1) := by kernel_rfl
@[go_sem] theorem fld_56_2 : fld Go.Proofs.Try.prog 56 2 = some (2, true, 2) := by kernel_rfl
@[go_sem] theorem plc_56 : placesOf Go.Proofs.Try.prog 56 = some (#[(0, 1), (1, 1), (2, 2)][·]?) := by kernel_rfl
@[go_sem] theorem zer_56 : zeros Go.Proofs.Try.prog 56 = some [.val (.int .i64 0), .val (.int .i64 0), .val (.int .i64 0), .val (.int .i64 0)] := by kernel_rfl
@[go_sem] theorem byt_56 : (Go.Proofs.Try.prog).bytesOf 56 = 32 := by kernel_rfl
@[go_sem] theorem lay_57 : lay Go.Proofs.Try.prog 57 = some (true, 4) := by kernel_rfl
@[go_sem] theorem fld_57_0 : fld Go.Proofs.Try.prog 57 0 = some (0, false, 1) := by kernel_rfl
@[go_sem] theorem fld_57_1 : fld Go.Proofs.Try.prog 57 1 = some (1, false, 1) := by kernel_rfl
@[go_sem] theorem fld_57_2 : fld Go.Proofs.Try.prog 57 2 = some (2, true, 2) := by kernel_rfl
@[go_sem] theorem plc_57 : placesOf Go.Proofs.Try.prog 57 = some (#[(0, 1), (1, 1), (2, 2)][·]?) := by kernel_rfl
@[go_sem] theorem zer_57 : zeros Go.Proofs.Try.prog 57 = some [.val (.int .i64 0), .val (.int .i64 0), .val (.int .i64 0), .val (.int .i64 0)] := by kernel_rfl
@[go_sem] theorem byt_57 : (Go.Proofs.Try.prog).bytesOf 57 = 32 := by kernel_rfl
@[go_sem] theorem lay_58 : lay Go.Proofs.Try.prog 58 = some (false, 1) := by kernel_rfl
@[go_sem] theorem und_58 : (Go.Proofs.Try.prog).underlying 58 = some (.slice 57) := by kernel_rfl
@[go_sem] theorem idx_58 : idx Go.Proofs.Try.prog 58 = some (none, 57, true, 4) := by kernel_rfl
@[go_sem] theorem zer_58 : zeros Go.Proofs.Try.prog 58 = some [.val (.slice none 0 0)] := by kernel_rfl
@[go_sem] theorem byt_58 : (Go.Proofs.Try.prog).bytesOf 58 = 24 := by kernel_rfl
@[go_sem] theorem lay_59 : lay Go.Proofs.Try.prog 59 = some (false, 1) := by kernel_rfl
@[go_sem] theorem und_59 : (Go.Proofs.Try.prog).underlying 59 = some (.slice 40) := by kernel_rfl
@[go_sem] theorem idx_59 : idx Go.Proofs.Try.prog 59 = some (none, 40, false, 1) := by kernel_rfl
@[go_sem] theorem zer_59 : zeros Go.Proofs.Try.prog 59 = some [.val (.slice none 0 0)] := by kernel_rfl
@[go_sem] theorem byt_59 : (Go.Proofs.Try.prog).bytesOf 59 = 24 := by kernel_rfl
@[go_sem] theorem lay_61 : lay Go.Proofs.Try.prog 61 = some (false, 1) := by kernel_rfl
@[go_sem] theorem zer_61 : zeros Go.Proofs.Try.prog 61 = some [.val .nilFunc] := by kernel_rfl
@[go_sem] theorem byt_61 : (Go.Proofs.Try.prog).bytesOf 61 = 8 := by kernel_rfl
@[go_sem] theorem lay_63 : lay Go.Proofs.Try.prog 63 = some (false, 1) := by kernel_rfl
@[go_sem] theorem zer_63 : zeros Go.Proofs.Try.prog 63 = some [.val .nilFunc] := by kernel_rfl
@[go_sem] theorem byt_63 : (Go.Proofs.Try.prog).bytesOf 63 = 8 := by kernel_rfl
@[go_sem] theorem lay_64 : lay Go.Proofs.Try.prog 64 = some (false, 1) := by kernel_rfl
@[go_sem] theorem zer_64 : zeros Go.Proofs.Try.prog 64 = some [.val .nilFunc] := by kernel_rfl
@[go_sem] theorem byt_64 : (Go.Proofs.Try.prog).bytesOf 64 = 8 := by kernel_rfl
@[go_sem] theorem lay_65 : lay Go.Proofs.Try.prog 65 = some (false, 1) := by kernel_rfl
@[go_sem] theorem zer_65 : zeros Go.Proofs.Try.prog 65 = some [.val .nilFunc] := by kernel_rfl
@[go_sem] theorem byt_65 : (Go.Proofs.Try.prog).bytesOf 65 = 8 := by kernel_rfl
@[go_sem] theorem lay_66 : lay Go.Proofs.Try.prog 66 = some (true, 1) := by kernel_rfl
@[go_sem] theorem fld_66_0 : fld Go.Proofs.Try.prog 66 0 = some (0, false, 1) := by kernel_rfl
@[go_sem] theorem plc_66 : placesOf Go.Proofs.Try.prog 66 = some (#[(0, 1)][·]?) := by kernel_rfl
@[go_sem] theorem zer_66 : zeros Go.Proofs.Try.prog 66 = some [.val (.slice none 0 0)] := by kernel_rfl
@[go_sem] theorem byt_66 : (Go.Proofs.Try.prog).bytesOf 66 = 24 := by kernel_rfl
@[go_sem] theorem lay_67 : lay Go.Proofs.Try.prog 67 = some (true, 1) := by kernel_rfl
@[go_sem] theorem fld_67_0 : fld Go.Proofs.Try.prog 67 0 = some (0, false, 1) := by kernel_rfl
@[go_sem] theorem plc_67 : placesOf Go.Proofs.Try.prog 67 = some (#[(0, 1)][·]?) := by kernel_rfl
@[go_sem] theorem zer_67 : zeros Go.Proofs.Try.prog 67 = some [.val (.slice none 0 0)] := by kernel_rfl
@[go_sem] theorem byt_67 : (Go.Proofs.Try.prog).bytesOf 67 = 24 := by kernel_rfl
@[go_sem] theorem lay_68 : lay Go.Proofs.Try.prog 68 = some (true, 3) := by kernel_rfl
@[go_sem] theorem fld_68_0 : fld Go.Proofs.Try.prog 68 0 = some (0, false, 1) := by kernel_rfl
@[go_sem] theorem fld_68_1 : fld Go.Proofs.Try.prog 68 1 = some (1, false, 1) := by kernel_rfl
@[go_sem] theorem fld_68_2 : fld Go.Proofs.Try.prog 68 2 = some (2, false, 1) := by kernel_rfl
@[go_sem] theorem plc_68 : placesOf Go.Proofs.Try.prog 68 = some (#[(0, 1), (1, 1), (2, 1)][·]?) := by kernel_rfl
@[go_sem] theorem flat_68 : flatInts Go.Proofs.Try.prog 68 = some 3 := by kernel_rfl
@[go_sem] theorem zer_68 : zeros Go.Proofs.Try.prog 68 = some [.val (.int .i64 0), .val (.int .i64 0), .val (.int .i64 0)] := by kernel_rfl
@[go_sem] theorem byt_68 : (Go.Proofs.Try.prog).bytesOf 68 = 24 := by kernel_rfl
@[go_sem] theorem lay_69 : lay Go.Proofs.Try.prog 69 = some (true, 3) := by kernel_rfl
@[go_sem] theorem fld_69_0 : fld Go.Proofs.Try.prog 69 0 = some (0, false, 1) := by kernel_rfl
@[go_sem] theorem fld_69_1 : fld Go.Proofs.Try.prog 69 1 = some (1, false, 1) := by kernel_rfl
@[go_sem] theorem fld_69_2 : fld Go.Proofs.Try.prog 69 2 = some (2, false, 1) := by kernel_rfl
@[go_sem] theorem plc_69 : placesOf Go.Proofs.Try.prog 69 = some (#[(0, 1), (1, 1), (2, 1)][·]?) := by kernel_rfl
@[go_sem] theorem flat_69 : flatInts Go.Proofs.Try.prog 69 = some 3 := by kernel_rfl
@[go_sem] theorem zer_69 : zeros Go.Proofs.Try.prog 69 = some [.val (.int .i64 0), .val (.int .i64 0), .val (.int .i64 0)] := by kernel_rfl
@[go_sem] theorem byt_69 : (Go.Proofs.Try.prog).bytesOf 69 = 24 := by kernel_rfl
@[go_sem] theorem lay_70 : lay Go.Proofs.Try.prog 70 = some (true, 3) := by kernel_rfl
@[go_sem] theorem fld_70_0 : fld Go.Proofs.Try.prog 70 0 = some (0, true, 3) := by kernel_rfl
@[go_sem] theorem plc_70 : placesOf Go.Proofs.Try.prog 70 = some (#[(0, 3)][·]?) := by kernel_rfl
@[go_sem] theorem zer_70 : zeros Go.Proofs.Try.prog 70 = some [.val (.slice none 0 0), .val (.int .i64 0), .val (.int .i64 0)] := by kernel_rfl
@[go_sem] theorem byt_70 : (Go.Proofs.Try.prog).bytesOf 70 = 40 := by kernel_rfl
@[go_sem] theorem lay_71 : lay Go.Proofs.Try.prog 71 = some (true, 3) := by kernel_rfl
@[go_sem] theorem fld_71_0 : fld Go.Proofs.Try.prog 71 0 = some (0, true, 3) := by kernel_rfl
@[go_sem] theorem plc_71 : placesOf Go.Proofs.Try.prog 71 = some (#[(0, 3)][·]?) := by kernel_rfl
@[go_sem] theorem zer_71 : zeros Go.Proofs.Try.prog 71 = some [.val (.slice none 0 0), .val (.int .i64 0), .val (.int .i64 0)] := by kernel_rfl
@[go_sem] theorem byt_71 : (Go.Proofs.Try.prog).bytesOf 71 = 40 := by kernel_rfl
@[go_sem] theorem lay_73 : lay Go.Proofs.Try.prog 73 = some (false, 1) := by kernel_rfl
@[go_sem] theorem zer_73 : zeros Go.Proofs.Try.prog 73 = some [.val .nilFunc] := by kernel_rfl
@[go_sem] theorem byt_73 : (Go.Proofs.Try.prog).bytesOf 73 = 8 := by kernel_rfl
@[go_sem] theorem lay_74 : lay Go.Proofs.Try.prog 74 = some (false, 1) := by kernel_rfl
@[go_sem] theorem zer_74 : zeros Go.Proofs.Try.prog 74 = some [.val .nilFunc] := by kernel_rfl
@[go_sem] theorem byt_74 : (Go.Proofs.Try.prog).bytesOf 74 = 8 := by kernel_rfl
@[go_sem] theorem lay_75 : lay Go.Proofs.Try.prog 75 = some (false, 1) := by kernel_rfl
@[go_sem] theorem zer_75 : zeros Go.Proofs.Try.prog 75 = some [.val .nilFunc] := by kernel_rfl
@[go_sem] theorem byt_75 : (Go.Proofs.Try.prog).bytesOf 75 = 8 := by kernel_rfl
@[go_sem] theorem lay_76 : lay Go.Proofs.Try.prog 76 = some (false, 1) := by kernel_rfl
@[go_sem] theorem zer_76 : zeros Go.Proofs.Try.prog 76 = some [.val .nilFunc] := by kernel_rfl
@[go_sem] theorem byt_76 : (Go.Proofs.Try.prog).bytesOf 76 = 8 := by kernel_rfl
@[go_sem] theorem lay_77 : lay Go.Proofs.Try.prog 77 = some (true, 4) := by kernel_rfl
@[go_sem] theorem fld_77_0 : fld Go.Proofs.Try.prog 77 0 = some (0, true, 4) := by kernel_rfl
@[go_sem] theorem plc_77 : placesOf Go.Proofs.Try.prog 77 = some (#[(0, 4)][·]?) := by kernel_rfl
@[go_sem] theorem zer_77 : zeros Go.Proofs.Try.prog 77 = some [.val (.slice none 0 0), .val (.slice none 0 0), .val (.slice none 0 0), .val (.slice none 0 0)] := by kernel_rfl
@[go_sem] theorem byt_77 : (Go.Proofs.Try.prog).bytesOf 77 = 96 := by kernel_rfl
@[go_sem] theorem lay_78 : lay Go.Proofs.Try.prog 78 = some (true, 4) := by kernel_rfl
@[go_sem] theorem fld_78_0 : fld Go.Proofs.Try.prog 78 0 = some (0, true, 4) := by kernel_rfl
@[go_sem] theorem plc_78 : placesOf Go.Proofs.Try.prog 78 = some (#[(0, 4)][·]?) := by kernel_rfl
@[go_sem] theorem zer_78 : zeros Go.Proofs.Try.prog 78 = some [.val (.slice none 0 0), .val (.slice none 0 0), .val (.slice none 0 0), .val (.slice none 0 0)] := by kernel_rfl
@[go_sem] theorem byt_78 : (Go.Proofs.Try.prog).bytesOf 78 = 96 := by kernel_rfl
@[go_sem] theorem lay_80 : lay Go.Proofs.Try.prog 80 = some (false, 1) := by kernel_rfl
@[go_sem] theorem zer_80 : zeros Go.Proofs.Try.prog 80 = some [.val .nilFunc] := by kernel_rfl
@[go_sem] theorem byt_80 : (Go.Proofs.Try.prog).bytesOf 80 = 8 := by kernel_rfl
@[go_sem] theorem lay_81 : lay Go.Proofs.Try.prog 81 = some (true, 3) := by kernel_rfl
@[go_sem] theorem und_81 : (Go.Proofs.Try.prog).underlying 81 = some (.array 3 3) := by kernel_rfl
@[go_sem] theorem idx_81 : idx Go.Proofs.Try.prog 81 = some (some 3, 3, false, 1) := by kernel_rfl
@[go_sem] theorem plc_81 : placesOf Go.Proofs.Try.prog 81 = some (fun i => some (i * 1, 1)) := by kernel_rfl
@[go_sem] theorem zer_81 : zeros Go.Proofs.Try.prog 81 = some [.val (.int .i64 0), .val (.int .i64 0), .val (.int .i64 0)] := by kernel_rfl
@[go_sem] theorem byt_81 : (Go.Proofs.Try.prog).bytesOf 81 = 24 := by kernel_rfl
@[go_sem] theorem lay_82 : lay Go.Proofs.Try.prog 82 = some (true, 3) := by kernel_rfl
@[go_sem] theorem und_82 : (Go.Proofs.Try.prog).underlying 82 = some (.array 3 3) := by kernel_rfl
@[go_sem] theorem idx_82 : idx Go.Proofs.Try.prog 82 = some (some 3, 3, false, 1) := by kernel_rfl
@[go_sem] theorem plc_82 : placesOf Go.Proofs.Try.prog 82 = some (fun i => some (i * 1, 1)) := by kernel_rfl
@[go_sem] theorem zer_82 : zeros Go.Proofs.Try.prog 82 = some [.val (.int .i64 0), .val (.int .i64 0), .val (.int .i64 0)] := by kernel_rfl
@[go_sem] theorem byt_82 : (Go.Proofs.Try.prog).bytesOf 82 = 24 := by kernel_rfl
@[go_sem] theorem lay_83 : lay Go.Proofs.Try.prog 83 = some (true, 6) := by kernel_rfl
@[go_sem] theorem und_83 : (Go.Proofs.Try.prog).underlying 83 = some (.array 3 38) := by kernel_rfl
@[go_sem] theorem idx_83 : idx Go.Proofs.Try.prog 83 = some (some 3, 38, true, 2) := by kernel_rfl
@[go_sem] theorem plc_83 : placesOf Go.Proofs.Try.prog 83 = some (fun i => some (i * 2, 2)) := by kernel_rfl
@[go_sem] theorem zer_83 : zeros Go.Proofs.Try.prog 83 = some [.val (.int .i64 0), .val (.int .i64 0), .val (.int .i64 0), .val (.int .i64 0), .val (.int .i64 0), .val (.int .i64 0)] := by kernel_rfl
@[go_sem] theorem byt_83 : (Go.Proofs.Try.prog).bytesOf 83 = 48 := by kernel_rfl
@[go_sem] theorem lay_84 : lay Go.Proofs.Try.prog 84 = some (true, 11) := by kernel_rfl
@[go_sem] theorem fld_84_0 : fld Go.Proofs.Try.prog 84 0 = some (0, false, 1) := by kernel_rfl
@[go_sem] theorem fld_84_1 : fld Go.Proofs.Try.prog 84 1 = some (1, true, 3) := by kernel_rfl
@[go_sem] theorem fld_84_2 : fld Go.Proofs.Try.prog 84 2 = some (4, true, 6) := by kernel_rfl
@[go_sem] theorem fld_84_3 : fld Go.Proofs.Try.prog 84 3 = some (10, false, 1) := by kernel_rfl
@[go_sem] theorem plc_84 : placesOf Go.Proofs.Try.prog 84 = some (#[(0, 1), (1, 3), (4, 6), (10, 1)][·]?) := by kernel_rfl
@[go_sem] theorem zer_84 : zeros Go.Proofs.Try.prog 84 = some [.val (.int .i64 0), .val (.int .i64 0), .val (.int .i64 0), .val (.int .i64 0), .val (.int .i64 0), .val (.int .i64 0), .val (.int .i64 0), .val (.int .i64 0), .val (.int .i64 0), .val (.int .i64 0), .val (.int .i64 0)] := by kernel_rfl
@[go_sem] theorem byt_84 : (Go.Proofs.Try.prog).bytesOf 84 = 88 := by kernel_rfl
@[go_sem] theorem lay_85 : lay Go.Proofs.Try.prog 85 = some (true, 11) := by kernel_rfl
@[go_sem] theorem fld_85_0 : fld Go.Proofs.Try.prog 85 0 = some (0, false, 1) := by kernel_rfl
@[go_sem] theorem fld_85_1 : fld Go.Proofs.Try.prog 85 1 = some (1, true, 3) := by kernel_rfl
@[go_sem] theorem fld_85_2 : fld Go.Proofs.Try.prog 85 2 = some (4, true, 6) := by kernel_rfl
@[go_sem] theorem fld_85_3 : fld Go.Proofs.Try.prog 85 3 = some (10, false, 1) := by kernel_rfl
@[go_sem] theorem plc_85 : placesOf Go.Proofs.Try.prog 85 = some (#[(0, 1), (1, 3), (4, 6), (10, 1)][·]?) := by kernel_rfl
@[go_sem] theorem zer_85 : zeros Go.Proofs.Try.prog 85 = some [.val (.int .i64 0), .val (.int .i64 0), .val (.int .i64 0), .val (.int .i64 0), .val (.int .i64 0), .val (.int .i64 0), .val (.int .i64 0), .val (.int .i64 0), .val (.int .i64 0), .val (.int .i64 0), .val (.int .i64 0)] := by kernel_rfl
@[go_sem] theorem byt_85 : (Go.Proofs.Try.prog).bytesOf 85 = 88 := by kernel_rfl
@[go_sem] theorem lay_86 : lay Go.Proofs.Try.prog 86 = some (false, 1) := by kernel_rfl
@[go_sem] theorem zer_86 : zeros Go.Proofs.Try.prog 86 = some [.val .nilFunc] := by kernel_rfl
@[go_sem] theorem byt_86 : (Go.Proofs.Try.prog).bytesOf 86 = 8 := by kernel_rfl
@[go_sem] theorem lay_87 : lay Go.Proofs.Try.prog 87 = some (false, 1) := by kernel_rfl
@[go_sem] theorem zer_87 : zeros Go.Proofs.Try.prog 87 = some [.val .nilFunc] := by kernel_rfl
@[go_sem] theorem byt_87 : (Go.Proofs.Try.prog).bytesOf 87 = 8 := by kernel_rfl
@[go_sem] theorem lay_88 : lay Go.Proofs.Try.prog 88 = some (false, 1) := by kernel_rfl
@[go_sem] theorem zer_88 : zeros Go.Proofs.Try.prog 88 = some [.val .nilFunc] := by kernel_rfl
@[go_sem] theorem byt_88 : (Go.Proofs.Try.prog).bytesOf 88 = 8 := by kernel_rfl
@[go_sem] theorem lay_89 : lay Go.Proofs.Try.prog 89 = some (false, 1) := by kernel_rfl
@[go_sem] theorem zer_89 : zeros Go.Proofs.Try.prog 89 = some [.val .nilFunc] := by kernel_rfl
@[go_sem] theorem byt_89 : (Go.Proofs.Try.prog).bytesOf 89 = 8 := by kernel_rfl
@[go_sem] theorem lay_90 : lay Go.Proofs.Try.prog 90 = some (false, 1) := by kernel_rfl
@[go_sem] theorem zer_90 : zeros Go.Proofs.Try.prog 90 = some [.val .nilFunc] := by kernel_rfl
@[go_sem] theorem byt_90 : (Go.Proofs.Try.prog).bytesOf 90 = 8 := by kernel_rfl
@[go_sem] theorem lay_91 : lay Go.Proofs.Try.prog 91 = some (true, 3) := by kernel_rfl
@[go_sem] theorem fld_91_0 : fld Go.Proofs.Try.prog 91 0 = some (0, false, 1) := by kernel_rfl
@[go_sem] theorem fld_91_1 : fld Go.Proofs.Try.prog 91 1 = some (1, false, 1) := by kernel_rfl
@[go_sem] theorem fld_91_2 : fld Go.Proofs.Try.prog 91 2 = some (2, false, 1) := by kernel_rfl
@[go_sem] theorem plc_91 : placesOf Go.Proofs.Try.prog 91 = some (#[(0, 1), (1, 1), (2, 1)][·]?) := by kernel_rfl
@[go_sem] theorem flat_91 : flatInts Go.Proofs.Try.prog 91 = some 3 := by kernel_rfl
@[go_sem] theorem zer_91 : zeros Go.Proofs.Try.prog 91 = some [.val (.int .i64 0), .val (.int .i64 0), .val (.int .i64 0)] := by kernel_rfl
@[go_sem] theorem byt_91 : (Go.Proofs.Try.prog).bytesOf 91 = 24 := by kernel_rfl
@[go_sem] theorem lay_92 : lay Go.Proofs.Try.prog 92 = some (true, 3) := by kernel_rfl
@[go_sem] theorem fld_92_0 : fld Go.Proofs.Try.prog 92 0 = some (0, false, 1) := by kernel_rfl
@[go_sem] theorem fld_92_1 : fld Go.Proofs.Try.prog 92 1 = some (1, false, 1) := by kernel_rfl
@[go_sem] theorem fld_92_2 : fld Go.Proofs.Try.prog 92 2 = some (2, false, 1) := by kernel_rfl
@[go_sem] theorem plc_92 : placesOf Go.Proofs.Try.prog 92 = some (#[(0, 1), (1, 1), (2, 1)][·]?) := by kernel_rfl
@[go_sem] theorem flat_92 : flatInts Go.Proofs.Try.prog 92 = some 3 := by kernel_rfl
@[go_sem] theorem zer_92 : zeros Go.Proofs.Try.prog 92 = some [.val (.int .i64 0), .val (.int .i64 0), .val (.int .i64 0)] := by kernel_rfl
@[go_sem] theorem byt_92 : (Go.Proofs.Try.prog).bytesOf 92 = 24 := by kernel_rfl
@[go_sem] theorem lay_93 : lay Go.Proofs.Try.prog 93 = some (false, 1) := by kernel_rfl
@[go_sem] theorem zer_93 : zeros Go.Proofs.Try.prog 93 = some [.val .nilFunc] := by kernel_rfl
@[go_sem] theorem byt_93 : (Go.Proofs.Try.prog).bytesOf 93 = 8 := by kernel_rfl
@[go_sem] theorem lay_94 : lay Go.Proofs.Try.prog 94 = some (false, 1) := by kernel_rfl
@[go_sem] theorem zer_94 : zeros Go.Proofs.Try.prog 94 = some [.val .nilFunc] := by kernel_rfl
@[go_sem] theorem byt_94 : (Go.Proofs.Try.prog).bytesOf 94 = 8 := by kernel_rfl
@[go_sem] theorem lay_95 : lay Go.Proofs.Try.prog 95 = some (true, 5) := by kernel_rfl
@[go_sem] theorem fld_95_0 : fld Go.Proofs.Try.prog 95 0 = some (0, true, 3) := by kernel_rfl
@[go_sem] theorem fld_95_1 : fld Go.Proofs.Try.prog 95 1 = some (3, false, 1) := by kernel_rfl
@[go_sem] theorem fld_95_2 : fld Go.Proofs.Try.prog 95 2 = some (4, false, 1) := by kernel_rfl
@[go_sem] theorem plc_95 : placesOf Go.Proofs.Try.prog 95 = some (#[(0, 3), (3, 1), (4, 1)][·]?) := by kernel_rfl
@[go_sem] theorem zer_95 : zeros Go.Proofs.Try.prog 95 = some [.val (.slice none 0 0), .val (.int .i64 0), .val (.int .i64 0), .val (.slice none 0 0), .val (.int .i64 0)] := by kernel_rfl
@[go_sem] theorem byt_95 : (Go.Proofs.Try.prog).bytesOf 95 = 72 := by kernel_rfl
@[go_sem] theorem lay_96 : lay Go.Proofs.Try.prog 96 = some (true, 5) := by kernel_rfl
@[go_sem] theorem fld_96_0 : fld Go.Proofs.Try.prog 96 0 = some (0, true, 3) := by kernel_rfl
@[go_sem] theorem fld_96_1 : fld Go.Proofs.Try.prog 96 1 = some (3, false, 1) := by kernel_rfl
@[go_sem] theorem fld_96_2 : fld Go.Proofs.Try.prog 96 2 = some (4, false, 1) := by kernel_rfl
@[go_sem] theorem plc_96 : placesOf Go.Proofs.Try.prog 96 = some (#[(0, 3), (3, 1), (4, 1)][·]?) := by kernel_rfl
@[go_sem] theorem zer_96 : zeros Go.Proofs.Try.prog 96 = some [.val (.slice none 0 0), .val (.int .i64 0), .val (.int .i64 0), .val (.slice none 0 0), .val (.int .i64 0)] := by kernel_rfl
@[go_sem] theorem byt_96 : (Go.Proofs.Try.prog).bytesOf 96 = 72 := by kernel_rfl
@[go_sem] theorem lay_98 : lay Go.Proofs.Try.prog 98 = some (false, 1) := by kernel_rfl
@[go_sem] theorem zer_98 : zeros Go.Proofs.Try.prog 98 = some [.val .nilFunc] := by kernel_rfl
@[go_sem] theorem byt_98 : (Go.Proofs.Try.prog).bytesOf 98 = 8 := by kernel_rfl
@[go_sem] theorem lay_100 : lay Go.Proofs.Try.prog 100 = some (false, 1) := by kernel_rfl
@[go_sem] theorem zer_100 : zeros Go.Proofs.Try.prog 100 = some [.val .nilFunc] := by kernel_rfl
@[go_sem] theorem byt_100 : (Go.Proofs.Try.prog).bytesOf 100 = 8 := by kernel_rfl
@[go_sem] theorem lay_102 : lay Go.Proofs.Try.prog 102 = some (false, 1) := by kernel_rfl
@[go_sem] theorem zer_102 : zeros Go.Proofs.Try.prog 102 = some [.val .nilFunc] := by kernel_rfl
@[go_sem] theorem byt_102 : (Go.Proofs.Try.prog).bytesOf 102 = 8 := by kernel_rfl
@[go_sem] theorem lay_103 : lay Go.Proofs.Try.prog 103 = some (false, 1) := by kernel_rfl
@[go_sem] theorem zer_103 : zeros Go.Proofs.Try.prog 103 = some [.val .nilFunc] := by kernel_rfl
@[go_sem] theorem byt_103 : (Go.Proofs.Try.prog).bytesOf 103 = 8 := by kernel_rfl
@[go_sem] theorem lay_104 : lay Go.Proofs.Try.prog 104 = some (true, 5) := by kernel_rfl
@[go_sem] theorem fld_104_0 : fld Go.Proofs.Try.prog 104 0 = some (0, true, 2) := by kernel_rfl
@[go_sem] theorem fld_104_1 : fld Go.Proofs.Try.prog 104 1 = some (2, true, 2) := by kernel_rfl
@[go_sem] theorem fld_104_2 : fld Go.Proofs.Try.prog 104 2 = some (4, false, 1) := by kernel_rfl
@[go_sem] theorem plc_104 : placesOf Go.Proofs.Try.prog 104 = some (#[(0, 2), (2, 2), (4, 1)][·]?) := by kernel_rfl
@[go_sem] theorem zer_104 : zeros Go.Proofs.Try.prog 104 = some [.val (.int .i64 0), .val (.int .i64 0), .val (.int .i64 0), .val (.int .i64 0), .val (.int .i64 0)] := by kernel_rfl
@[go_sem] theorem byt_104 : (Go.Proofs.Try.prog).bytesOf 104 = 40 := by kernel_rfl
@[go_sem] theorem lay_105 : lay Go.Proofs.Try.prog 105 = some (true, 5) := by kernel_rfl
@[go_sem] theorem fld_105_0 : fld Go.Proofs.Try.prog 105 0 = some (0, true, 2) := by kernel_rfl
@[go_sem] theorem fld_105_1 : fld Go.Proofs.Try.prog 105 1 = some (2, true, 2) := by kernel_rfl
@[go_sem] theorem fld_105_2 : fld Go.Proofs.Try.prog 105 2 = some (4, false, 1) := by kernel_rfl
@[go_sem] theorem plc_105 : placesOf Go.Proofs.Try.prog 105 = some (#[(0, 2), (2, 2), (4, 1)][·]?) := by kernel_rfl
@[go_sem] theorem zer_105 : zeros Go.Proofs.Try.prog 105 = some [.val (.int .i64 0), .val (.int .i64 0), .val (.int .i64 0), .val (.int .i64 0), .val (.int .i64 0)] := by kernel_rfl
@[go_sem] theorem byt_105 : (Go.Proofs.Try.prog).bytesOf 105 = 40 := by kernel_rfl
@[go_sem] theorem lay_107 : lay Go.Proofs.Try.prog 107 = some (false, 1) := by kernel_rfl
@[go_sem] theorem zer_107 : zeros Go.Proofs.Try.prog 107 = some [.val .nilFunc] := by kernel_rfl
@[go_sem] theorem byt_107 : (Go.Proofs.Try.prog).bytesOf 107 = 8 := by kernel_rfl
@[go_sem] theorem lay_108 : lay Go.Proofs.Try.prog 108 = some (false, 1) := by kernel_rfl
@[go_sem] theorem zer_108 : zeros Go.Proofs.Try.prog 108 = some [.val .nilFunc] := by kernel_rfl
@[go_sem] theorem byt_108 : (Go.Proofs.Try.prog).bytesOf 108 = 8 := by kernel_rfl
@[go_sem] theorem lay_109 : lay Go.Proofs.Try.prog 109 = some (false, 1) := by kernel_rfl
@[go_sem] theorem zer_109 : zeros Go.Proofs.Try.prog 109 = some [.val .nilFunc] := by kernel_rfl
@[go_sem] theorem byt_109 : (Go.Proofs.Try.prog).bytesOf 109 = 8 := by kernel_rfl
@[go_sem] theorem lay_110 : lay Go.Proofs.Try.prog 110 = some (false, 1) := by kernel_rfl
@[go_sem] theorem zer_110 : zeros Go.Proofs.Try.prog 110 = some [.val .nilFunc] := by kernel_rfl
@[go_sem] theorem byt_110 : (Go.Proofs.Try.prog).bytesOf 110 = 8 := by kernel_rfl
@[go_sem] theorem lay_111 : lay Go.Proofs.Try.prog 111 = some (true, 4) := by kernel_rfl
@[go_sem] theorem und_111 : (Go.Proofs.Try.prog).underlying 111 = some (.array 4 3) := by kernel_rfl
@[go_sem] theorem idx_111 : idx Go.Proofs.Try.prog 111 = some (some 4, 3, false, 1) := by kernel_rfl
@[go_sem] theorem plc_111 : placesOf Go.Proofs.Try.prog 111 = some (fun i => some (i * 1, 1)) := by kernel_rfl
@[go_sem] theorem zer_111 : zeros Go.Proofs.Try.prog 111 = some [.val (.int .i64 0), .val (.int .i64 0), .val (.int .i64 0), .val (.int .i64 0)] := by kernel_rfl
@[go_sem] theorem byt_111 : (Go.Proofs.Try.prog).bytesOf 111 = 32 := by kernel_rfl
@[go_sem] theorem lay_112 : lay Go.Proofs.Try.prog 112 = some (true, 4) := by kernel_rfl
@[go_sem] theorem und_112 : (Go.Proofs.Try.prog).underlying 112 = some (.array 4 3) := by kernel_rfl
@[go_sem] theorem idx_112 : idx Go.Proofs.Try.prog 112 = some (some 4, 3, false, 1) := by kernel_rfl
@[go_sem] theorem plc_112 : placesOf Go.Proofs.Try.prog 112 = some (fun i => some (i * 1, 1)) := by kernel_rfl
@[go_sem] theorem zer_112 : zeros Go.Proofs.Try.prog 112 = some [.val (.int .i64 0), .val (.int .i64 0), .val (.int .i64 0), .val (.int .i64 0)] := by kernel_rfl
@[go_sem] theorem byt_112 : (Go.Proofs.Try.prog).bytesOf 112 = 32 := by kernel_rfl
@[go_sem] theorem lay_113 : lay Go.Proofs.Try.prog 113 = some (false, 1) := by kernel_rfl
@[go_sem] theorem zer_113 : zeros Go.Proofs.Try.prog 113 = some [.val .nilFunc] := by kernel_rfl
@[go_sem] theorem byt_113 : (Go.Proofs.Try.prog).bytesOf 113 = 8 := by kernel_rfl
@[go_sem] theorem lay_114 : lay Go.Proofs.Try.prog 114 = some (false, 1) := by kernel_rfl
@[go_sem] theorem zer_114 : zeros Go.Proofs.Try.prog 114 = some [.val .nilFunc] := by kernel_rfl
@[go_sem] theorem byt_114 : (Go.Proofs.Try.prog).bytesOf 114 = 8 := by kernel_rfl
@[go_sem] theorem lay_115 : lay Go.Proofs.Try.prog 115 = some (false, 1) := by kernel_rfl
@[go_sem] theorem zer_115 : zeros Go.Proofs.Try.prog 115 = some [.val .nilFunc] := by kernel_rfl
@[go_sem] theorem byt_115 : (Go.Proofs.Try.prog).bytesOf 115 = 8 := by kernel_rfl
@[go_sem] theorem lay_116 : lay Go.Proofs.Try.prog 116 = some (false, 1) := by kernel_rfl
@[go_sem] theorem zer_116 : zeros Go.Proofs.Try.prog 116 = some [.val .nilFunc] := by kernel_rfl
@[go_sem] theorem byt_116 : (Go.Proofs.Try.prog).bytesOf 116 = 8 := by kernel_rfl
@[go_sem] theorem lay_117 : lay Go.Proofs.Try.prog 117 = some (false, 1) := by kernel_rfl
@[go_sem] theorem zer_117 : zeros Go.Proofs.Try.prog 117 = some [.val .nilFunc] := by kernel_rfl
@[go_sem] theorem byt_117 : (Go.Proofs.Try.prog).bytesOf 117 = 8 := by kernel_rfl
@[go_sem] theorem lay_118 : lay Go.Proofs.Try.prog 118 = some (false, 1) := by kernel_rfl
@[go_sem] theorem zer_118 : zeros Go.Proofs.Try.prog 118 = some [.val .nilFunc] := by kernel_rfl
@[go_sem] theorem byt_118 : (Go.Proofs.Try.prog).bytesOf 118 = 8 := by kernel_rfl
@[go_sem] theorem lay_119 : lay Go.Proofs.Try.prog 119 = some (false, 1) := by kernel_rfl
@[go_sem] theorem zer_119 : zeros Go.Proofs.Try.prog 119 = some [.val .nilFunc] := by kernel_rfl
@[go_sem] theorem byt_119 : (Go.Proofs.Try.prog).bytesOf 119 = 8 := by kernel_rfl
@[go_sem] theorem lay_120 : lay Go.Proofs.Try.prog 120 = some (false, 1) := by kernel_rfl
@[go_sem] theorem zer_120 : zeros Go.Proofs.Try.prog 120 = some [.val .nilFunc] := by kernel_rfl
@[go_sem] theorem byt_120 : (Go.Proofs.Try.prog).bytesOf 120 = 8 := by kernel_rfl
@[go_sem] theorem lay_121 : lay Go.Proofs.Try.prog 121 = some (false, 1) := by kernel_rfl
@[go_sem] theorem zer_121 : zeros Go.Proofs.Try.prog 121 = some [.val .nilFunc] := by kernel_rfl
@[go_sem] theorem byt_121 : (Go.Proofs.Try.prog).bytesOf 121 = 8 := by kernel_rfl
@[go_sem] theorem lay_122 : lay Go.Proofs.Try.prog 122 = some (false, 1) := by kernel_rfl
@[go_sem] theorem zer_122 : zeros Go.Proofs.Try.prog 122 = some [.val .nilFunc] := by kernel_rfl
@[go_sem] theorem byt_122 : (Go.Proofs.Try.prog).bytesOf 122 = 8 := by kernel_rfl
@[go_sem] theorem lay_123 : lay Go.Proofs.Try.prog 123 = some (false, 1) := by kernel_rfl
@[go_sem] theorem zer_123 : zeros Go.Proofs.Try.prog 123 = some [.val .nilFunc] := by kernel_rfl
@[go_sem] theorem byt_123 : (Go.Proofs.Try.prog).bytesOf 123 = 8 := by kernel_rfl
@[go_sem] theorem lay_124 : lay Go.Proofs.Try.prog 124 = some (false, 1) := by kernel_rfl
@[go_sem] theorem zer_124 : zeros Go.Proofs.Try.prog 124 = some [.val .nilFunc] := by kernel_rfl
@[go_sem] theorem byt_124 : (Go.Proofs.Try.prog).bytesOf 124 = 8 := by kernel_rfl
@[go_sem] theorem lay_125 : lay Go.Proofs.Try.prog 125 = some (false, 1) := by kernel_rfl
@[go_sem] theorem zer_125 : zeros Go.Proofs.Try.prog 125 = some [.val .nilFunc] := by kernel_rfl
@[go_sem] theorem byt_125 : (Go.Proofs.Try.prog).bytesOf 125 = 8 := by kernel_rfl
@[go_sem] theorem lay_126 : lay Go.Proofs.Try.prog 126 = some (false, 1) := by kernel_rfl
@[go_sem] theorem zer_126 : zeros Go.Proofs.Try.prog 126 = some [.val .nilFunc] := by kernel_rfl
@[go_sem] theorem byt_126 : (Go.Proofs.Try.prog).bytesOf 126 = 8 := by kernel_rfl
@[go_sem] theorem lay_127 : lay Go.Proofs.Try.prog 127 = some (false, 1) := by kernel_rfl
@[go_sem] theorem und_127 : (Go.Proofs.Try.prog).underlying 127 = some (.pointer 38) := by kernel_rfl
@[go_sem] theorem zer_127 : zeros Go.Proofs.Try.prog 127 = some [.val (.pointer none)] := by kernel_rfl
@[go_sem] theorem byt_127 : (Go.Proofs.Try.prog).bytesOf 127 = 8 := by kernel_rfl
@[go_sem] theorem lay_128 : lay Go.Proofs.Try.prog 128 = some (false, 1) := by kernel_rfl
@[go_sem] theorem zer_128 : zeros Go.Proofs.Try.prog 128 = some [.val .nilFunc] := by kernel_rfl
@[go_sem] theorem byt_128 : (Go.Proofs.Try.prog).bytesOf 128 = 8 := by kernel_rfl
@[go_sem] theorem lay_129 : lay Go.Proofs.Try.prog 129 = some (false, 1) := by kernel_rfl
@[go_sem] theorem zer_129 : zeros Go.Proofs.Try.prog 129 = some [.val .nilFunc] := by kernel_rfl
@[go_sem] theorem byt_129 : (Go.Proofs.Try.prog).bytesOf 129 = 8 := by kernel_rfl
@[go_sem] theorem lay_130 : lay Go.Proofs.Try.prog 130 = some (false, 1) := by kernel_rfl
@[go_sem] theorem zer_130 : zeros Go.Proofs.Try.prog 130 = some [.val .nilFunc] := by kernel_rfl
@[go_sem] theorem byt_130 : (Go.Proofs.Try.prog).bytesOf 130 = 8 := by kernel_rfl
@[go_sem] theorem lay_131 : lay Go.Proofs.Try.prog 131 = some (false, 1) := by kernel_rfl
@[go_sem] theorem zer_131 : zeros Go.Proofs.Try.prog 131 = some [.val .nilFunc] := by kernel_rfl
@[go_sem] theorem byt_131 : (Go.Proofs.Try.prog).bytesOf 131 = 8 := by kernel_rfl
@[go_sem] theorem lay_132 : lay Go.Proofs.Try.prog 132 = some (false, 1) := by kernel_rfl
@[go_sem] theorem zer_132 : zeros Go.Proofs.Try.prog 132 = some [.val .nilFunc] := by kernel_rfl
@[go_sem] theorem byt_132 : (Go.Proofs.Try.prog).bytesOf 132 = 8 := by kernel_rfl
@[go_sem] theorem lay_133 : lay Go.Proofs.Try.prog 133 = some (false, 1) := by kernel_rfl
@[go_sem] theorem zer_133 : zeros Go.Proofs.Try.prog 133 = some [.val .nilFunc] := by kernel_rfl
@[go_sem] theorem byt_133 : (Go.Proofs.Try.prog).bytesOf 133 = 8 := by kernel_rfl
@[go_sem] theorem lay_134 : lay Go.Proofs.Try.prog 134 = some (false, 1) := by kernel_rfl
@[go_sem] theorem zer_134 : zeros Go.Proofs.Try.prog 134 = some [.val .nilFunc] := by kernel_rfl
@[go_sem] theorem byt_134 : (Go.Proofs.Try.prog).bytesOf 134 = 8 := by kernel_rfl
@[go_sem] theorem lay_135 : lay Go.Proofs.Try.prog 135 = some (false, 1) := by kernel_rfl
@[go_sem] theorem zer_135 : zeros Go.Proofs.Try.prog 135 = some [.val .nilFunc] := by kernel_rfl
@[go_sem] theorem byt_135 : (Go.Proofs.Try.prog).bytesOf 135 = 8 := by kernel_rfl
@[go_sem] theorem lay_136 : lay Go.Proofs.Try.prog 136 = some (false, 1) := by kernel_rfl
@[go_sem] theorem zer_136 : zeros Go.Proofs.Try.prog 136 = some [.val .nilFunc] := by kernel_rfl
@[go_sem] theorem byt_136 : (Go.Proofs.Try.prog).bytesOf 136 = 8 := by kernel_rfl
@[go_sem] theorem lay_137 : lay Go.Proofs.Try.prog 137 = some (false, 1) := by kernel_rfl
@[go_sem] theorem zer_137 : zeros Go.Proofs.Try.prog 137 = some [.val .nilFunc] := by kernel_rfl
@[go_sem] theorem byt_137 : (Go.Proofs.Try.prog).bytesOf 137 = 8 := by kernel_rfl
@[go_sem] theorem lay_138 : lay Go.Proofs.Try.prog 138 = some (false, 1) := by kernel_rfl
@[go_sem] theorem zer_138 : zeros Go.Proofs.Try.prog 138 = some [.val .nilFunc] := by kernel_rfl
@[go_sem] theorem byt_138 : (Go.Proofs.Try.prog).bytesOf 138 = 8 := by kernel_rfl
@[go_sem] theorem lay_139 : lay Go.Proofs.Try.prog 139 = some (false, 1) := by kernel_rfl
@[go_sem] theorem zer_139 : zeros Go.Proofs.Try.prog 139 = some [.val .nilFunc] := by kernel_rfl
@[go_sem] theorem byt_139 : (Go.Proofs.Try.prog).bytesOf 139 = 8 := by kernel_rfl
@[go_sem] theorem lay_140 : lay Go.Proofs.Try.prog 140 = some (false, 1) := by kernel_rfl
@[go_sem] theorem zer_140 : zeros Go.Proofs.Try.prog 140 = some [.val .nilFunc] := by kernel_rfl
@[go_sem] theorem byt_140 : (Go.Proofs.Try.prog).bytesOf 140 = 8 := by kernel_rfl
@[go_sem] theorem lay_141 : lay Go.Proofs.Try.prog 141 = some (false, 1) := by kernel_rfl
@[go_sem] theorem zer_141 : zeros Go.Proofs.Try.prog 141 = some [.val .nilFunc] := by kernel_rfl
@[go_sem] theorem byt_141 : (Go.Proofs.Try.prog).bytesOf 141 = 8 := by kernel_rfl
@[go_sem] theorem lay_142 : lay Go.Proofs.Try.prog 142 = some (false, 1) := by kernel_rfl
@[go_sem] theorem zer_142 : zeros Go.Proofs.Try.prog 142 = some [.val .nilFunc] := by kernel_rfl
@[go_sem] theorem byt_142 : (Go.Proofs.Try.prog).bytesOf 142 = 8 := by kernel_rfl
@[go_sem] theorem lay_143 : lay Go.Proofs.Try.prog 143 = some (false, 1) := by kernel_rfl
@[go_sem] theorem zer_143 : zeros Go.Proofs.Try.prog 143 = some [.val .nilFunc] := by kernel_rfl
@[go_sem] theorem byt_143 : (Go.Proofs.Try.prog).bytesOf 143 = 8 := by kernel_rfl
@[go_sem] theorem lay_144 : lay Go.Proofs.Try.prog 144 = some (false, 1) := by kernel_rfl
@[go_sem] theorem zer_144 : zeros Go.Proofs.Try.prog 144 = some [.val .nilFunc] := by kernel_rfl
@[go_sem] theorem byt_144 : (Go.Proofs.Try.prog).bytesOf 144 = 8 := by kernel_rfl
@[go_sem] theorem lay_145 : lay Go.Proofs.Try.prog 145 = some (false, 1) := by kernel_rfl
@[go_sem] theorem zer_145 : zeros Go.Proofs.Try.prog 145 = some [.val .nilFunc] := by kernel_rfl
@[go_sem] theorem byt_145 : (Go.Proofs.Try.prog).bytesOf 145 = 8 := by kernel_rfl
@[go_sem] theorem lay_146 : lay Go.Proofs.Try.prog 146 = some (false, 1) := by kernel_rfl
@[go_sem] theorem zer_146 : zeros Go.Proofs.Try.prog 146 = some [.val .nilFunc] := by kernel_rfl
@[go_sem] theorem byt_146 : (Go.Proofs.Try.prog).bytesOf 146 = 8 := by kernel_rfl
@[go_sem] theorem lay_147 : lay Go.Proofs.Try.prog 147 = some (false, 1) := by kernel_rfl
@[go_sem] theorem zer_147 : zeros Go.Proofs.Try.prog 147 = some [.val .nilFunc] := by kernel_rfl
@[go_sem] theorem byt_147 : (Go.Proofs.Try.prog).bytesOf 147 = 8 := by kernel_rfl
@[go_sem] theorem lay_148 : lay Go.Proofs.Try.prog 148 = some (false, 1) := by kernel_rfl
@[go_sem] theorem zer_148 : zeros Go.Proofs.Try.prog 148 = some [.val .nilFunc] := by kernel_rfl
@[go_sem] theorem byt_148 : (Go.Proofs.Try.prog).bytesOf 148 = 8 := by kernel_rfl
@[go_sem] theorem lay_149 : lay Go.Proofs.Try.prog 149 = some (false, 1) := by kernel_rfl
@[go_sem] theorem zer_149 : zeros Go.Proofs.Try.prog 149 = some [.val .nilFunc] := by kernel_rfl
@[go_sem] theorem byt_149 : (Go.Proofs.Try.prog).bytesOf 149 = 8 := by kernel_rfl
@[go_sem] theorem lay_150 : lay Go.Proofs.Try.prog 150 = some (false, 1) := by kernel_rfl
@[go_sem] theorem zer_150 : zeros Go.Proofs.Try.prog 150 = some [.val .nilFunc] := by kernel_rfl
@[go_sem] theorem byt_150 : (Go.Proofs.Try.prog).bytesOf 150 = 8 := by kernel_rfl
@[go_sem] theorem lay_151 : lay Go.Proofs.Try.prog 151 = some (false, 1) := by kernel_rfl
@[go_sem] theorem und_151 : (Go.Proofs.Try.prog).underlying 151 = some (.int .u64) := by kernel_rfl
@[go_sem] theorem zer_151 : zeros Go.Proofs.Try.prog 151 = some [.val (.int .u64 0)] := by kernel_rfl
@[go_sem] theorem byt_151 : (Go.Proofs.Try.prog).bytesOf 151 = 8 := by kernel_rfl
@[go_sem] theorem lay_152 : lay Go.Proofs.Try.prog 152 = some (false, 1) := by kernel_rfl
@[go_sem] theorem zer_152 : zeros Go.Proofs.Try.prog 152 = some [.val .nilFunc] := by kernel_rfl
@[go_sem] theorem byt_152 : (Go.Proofs.Try.prog).bytesOf 152 = 8 := by kernel_rfl
@[go_sem] theorem lay_158 : lay Go.Proofs.Try.prog 158 = some (false, 1) := by kernel_rfl
@[go_sem] theorem zer_158 : zeros Go.Proofs.Try.prog 158 = some [.val .nilFunc] := by kernel_rfl
@[go_sem] theorem byt_158 : (Go.Proofs.Try.prog).bytesOf 158 = 8 := by kernel_rfl
@[go_sem] theorem lay_159 : lay Go.Proofs.Try.prog 159 = some (false, 1) := by kernel_rfl
@[go_sem] theorem und_159 : (Go.Proofs.Try.prog).underlying 159 = some (.int .u32) := by kernel_rfl
@[go_sem] theorem zer_159 : zeros Go.Proofs.Try.prog 159 = some [.val (.int .u32 0)] := by kernel_rfl
@[go_sem] theorem byt_159 : (Go.Proofs.Try.prog).bytesOf 159 = 4 := by kernel_rfl
@[go_sem] theorem lay_162 : lay Go.Proofs.Try.prog 162 = some (false, 1) := by kernel_rfl
@[go_sem] theorem zer_162 : zeros Go.Proofs.Try.prog 162 = some [.val .nilFunc] := by kernel_rfl
@[go_sem] theorem byt_162 : (Go.Proofs.Try.prog).bytesOf 162 = 8 := by kernel_rfl
@[go_sem] theorem lay_163 : lay Go.Proofs.Try.prog 163 = some (false, 1) := by kernel_rfl
@[go_sem] theorem und_163 : (Go.Proofs.Try.prog).underlying 163 = some (.pointer 5) := by kernel_rfl
@[go_sem] theorem zer_163 : zeros Go.Proofs.Try.prog 163 = some [.val (.pointer none)] := by kernel_rfl
@[go_sem] theorem byt_163 : (Go.Proofs.Try.prog).bytesOf 163 = 8 := by kernel_rfl
@[go_sem] theorem lay_168 : lay Go.Proofs.Try.prog 168 = some (false, 1) := by kernel_rfl
@[go_sem] theorem zer_168 : zeros Go.Proofs.Try.prog 168 = some [.val .nilFunc] := by kernel_rfl
@[go_sem] theorem byt_168 : (Go.Proofs.Try.prog).bytesOf 168 = 8 := by kernel_rfl
@[go_sem] theorem lay_170 : lay Go.Proofs.Try.prog 170 = some (false, 1) := by kernel_rfl
@[go_sem] theorem zer_170 : zeros Go.Proofs.Try.prog 170 = some [.val .nilFunc] := by kernel_rfl
@[go_sem] theorem byt_170 : (Go.Proofs.Try.prog).bytesOf 170 = 8 := by kernel_rfl

noncomputable abbrev Q : Program := Go.Proofs.Try.prog
theorem mix : Q.follows .mixedOrders = true := by kernel_rfl
end S12

