/- A part of the proof: F07. -/
import Derived.Test.YtmanbdacloeioaaProg
import Derived.Test.YtmanbdacloeioaaAbs20
import Derived.DeepKeys4
set_option linter.unusedVariables false
set_option linter.unusedSimpArgs false
set_option maxRecDepth 20000
namespace S07
open Go Abs
@[go_sem] theorem lay_1 : lay Go.Proofs.Try.prog 1 = some (false, 1) := by kernel_rfl
@[go_sem] theorem zer_1 : zeros Go.Proofs.Try.prog 1 = some [.val .nilFunc] := by kernel_rfl
@[go_sem] theorem byt_1 : (Go.Proofs.Try.prog).bytesOf 1 = 8 := by kernel_rfl
@[go_sem] theorem lay_2 : lay Go.Proofs.Try.prog 2 = some (false, 1) := by kernel_rfl
@[go_sem] theorem und_2 : (Go.Proofs.Try.prog).underlying 2 = some (.int .i64) := by kernel_rfl
@[go_sem] theorem zer_2 : zeros Go.Proofs.Try.prog 2 = some [.val (.int .i64 0)] := by kernel_rfl
@[go_sem] theorem byt_2 : (Go.Proofs.Try.prog).bytesOf 2 = 8 := by kernel_rfl
@[go_sem] theorem lay_3 : lay Go.Proofs.Try.prog 3 = some (false, 1) := by kernel_rfl
@[go_sem] theorem und_3 : (Go.Proofs.Try.prog).underlying 3 = some (.int .i64) := by kernel_rfl
@[go_sem] theorem zer_3 : zeros Go.Proofs.Try.prog 3 = some [.val (.int .i64 0)] := by kernel_rfl
@[go_sem] theorem byt_3 : (Go.Proofs.Try.prog).bytesOf 3 = 8 := by kernel_rfl
@[go_sem] theorem lay_4 : lay Go.Proofs.Try.prog 4 = some (false, 1) := by kernel_rfl
@[go_sem] theorem und_4 : (Go.Proofs.Try.prog).underlying 4 = some (.bool) := by kernel_rfl
@[go_sem] theorem zer_4 : zeros Go.Proofs.Try.prog 4 = some [.val (.bool false)] := by kernel_rfl
@[go_sem] theorem bty_4 : boolTy Go.Proofs.Try.prog 4 = true := by kernel_rfl
@[go_sem] theorem byt_4 : (Go.Proofs.Try.prog).bytesOf 4 = 1 := by kernel_rfl
@[go_sem] theorem lay_5 : lay Go.Proofs.Try.prog 5 = some (false, 1) := by kernel_rfl
@[go_sem] theorem und_5 : (Go.Proofs.Try.prog).underlying 5 = some (.int .u8) := by kernel_rfl
@[go_sem] theorem zer_5 : zeros Go.Proofs.Try.prog 5 = some [.val (.int .u8 0)] := by kernel_rfl
@[go_sem] theorem byt_5 : (Go.Proofs.Try.prog).bytesOf 5 = 1 := by kernel_rfl
@[go_sem] theorem lay_9 : lay Go.Proofs.Try.prog 9 = some (false, 1) := by kernel_rfl
@[go_sem] theorem zer_9 : zeros Go.Proofs.Try.prog 9 = some [.val (.string ByteArray.empty)] := by kernel_rfl
@[go_sem] theorem byt_9 : (Go.Proofs.Try.prog).bytesOf 9 = 16 := by kernel_rfl
@[go_sem] theorem lay_12 : lay Go.Proofs.Try.prog 12 = some (false, 1) := by kernel_rfl
@[go_sem] theorem und_12 : (Go.Proofs.Try.prog).underlying 12 = some (.int .u64) := by kernel_rfl
@[go_sem] theorem zer_12 : zeros Go.Proofs.Try.prog 12 = some [.val (.int .u64 0)] := by kernel_rfl
@[go_sem] theorem byt_12 : (Go.Proofs.Try.prog).bytesOf 12 = 8 := by kernel_rfl
@[go_sem] theorem lay_13 : lay Go.Proofs.Try.prog 13 = some (true, 2) := by kernel_rfl
@[go_sem] theorem fld_13_0 : fld Go.Proofs.Try.prog 13 0 = some (0, false, 1) := by kernel_rfl
@[go_sem] theorem fld_13_1 : fld Go.Proofs.Try.prog 13 1 = some (1, false, 1) := by kernel_rfl
@[go_sem] theorem plc_13 : placesOf Go.Proofs.Try.prog 13 = some (#[(0, 1), (1, 1)][·]?) := by kernel_rfl
@[go_sem] theorem zer_13 : zeros Go.Proofs.Try.prog 13 = some [.val (.string ByteArray.empty), .val (.int .u64 0)] := by kernel_rfl
@[go_sem] theorem byt_13 : (Go.Proofs.Try.prog).bytesOf 13 = 24 := by kernel_rfl
@[go_sem] theorem lay_21 : lay Go.Proofs.Try.prog 21 = some (false, 1) := by kernel_rfl
@[go_sem] theorem und_21 : (Go.Proofs.Try.prog).underlying 21 = some (.int .i32) := by kernel_rfl
@[go_sem] theorem zer_21 : zeros Go.Proofs.Try.prog 21 = some [.val (.int .i32 0)] := by kernel_rfl
@[go_sem] theorem byt_21 : (Go.Proofs.Try.prog).bytesOf 21 = 4 := by kernel_rfl
@[go_sem] theorem lay_22 : lay Go.Proofs.Try.prog 22 = some (false, 1) := by kernel_rfl
@[go_sem] theorem und_22 : (Go.Proofs.Try.prog).underlying 22 = some (.slice 115) := by kernel_rfl
@[go_sem] theorem idx_22 : idx Go.Proofs.Try.prog 22 = some (none, 115, true, 2) := by kernel_rfl
@[go_sem] theorem zer_22 : zeros Go.Proofs.Try.prog 22 = some [.val (.slice none 0 0)] := by kernel_rfl
@[go_sem] theorem byt_22 : (Go.Proofs.Try.prog).bytesOf 22 = 24 := by kernel_rfl
@[go_sem] theorem lay_23 : lay Go.Proofs.Try.prog 23 = some (true, 3) := by kernel_rfl
@[go_sem] theorem fld_23_0 : fld Go.Proofs.Try.prog 23 0 = some (0, false, 1) := by kernel_rfl
@[go_sem] theorem fld_23_1 : fld Go.Proofs.Try.prog 23 1 = some (1, false, 1) := by kernel_rfl
@[go_sem] theorem fld_23_2 : fld Go.Proofs.Try.prog 23 2 = some (2, false, 1) := by kernel_rfl
@[go_sem] theorem plc_23 : placesOf Go.Proofs.Try.prog 23 = some (#[(0, 1), (1, 1), (2, 1)][·]?) := by kernel_rfl
@[go_sem] theorem zer_23 : zeros Go.Proofs.Try.prog 23 = some [.val (.int .i64 0), .val (.slice none 0 0), .val (.slice none 0 0)] := by kernel_rfl
@[go_sem] theorem byt_23 : (Go.Proofs.Try.prog).bytesOf 23 = 56 := by kernel_rfl
@[go_sem] theorem lay_24 : lay Go.Proofs.Try.prog 24 = some (true, 3) := by kernel_rfl
@[go_sem] theorem fld_24_0 : fld Go.Proofs.Try.prog 24 0 = some (0, false, 1) := by kernel_rfl
@[go_sem] theorem fld_24_1 : fld Go.Proofs.Try.prog 24 1 = some (1, false, 1) := by kernel_rfl
@[go_sem] theorem fld_24_2 : fld Go.Proofs.Try.prog 24 2 = some (2, false, 1) := by kernel_rfl
@[go_sem] theorem plc_24 : placesOf Go.Proofs.Try.prog 24 = some (#[(0, 1), (1, 1), (2, 1)][·]?) := by kernel_rfl
@[go_sem] theorem zer_24 : zeros Go.Proofs.Try.prog 24 = some [.val (.int .i64 0), .val (.slice none 0 0), .val (.slice none 0 0)] := by kernel_rfl
@[go_sem] theorem byt_24 : (Go.Proofs.Try.prog).bytesOf 24 = 56 := by kernel_rfl
@[go_sem] theorem lay_25 : lay Go.Proofs.Try.prog 25 = some (false, 1) := by kernel_rfl
@[go_sem] theorem und_25 : (Go.Proofs.Try.prog).underlying 25 = some (.slice 26) := by kernel_rfl
@[go_sem] theorem idx_25 : idx Go.Proofs.Try.prog 25 = some (none, 26, false, 1) := by kernel_rfl
@[go_sem] theorem zer_25 : zeros Go.Proofs.Try.prog 25 = some [.val (.slice none 0 0)] := by kernel_rfl
@[go_sem] theorem byt_25 : (Go.Proofs.Try.prog).bytesOf 25 = 24 := by kernel_rfl
@[go_sem] theorem lay_26 : lay Go.Proofs.Try.prog 26 = some (false, 1) := by kernel_rfl
@[go_sem] theorem und_26 : (Go.Proofs.Try.prog).underlying 26 = some (.slice 3) := by kernel_rfl
@[go_sem] theorem idx_26 : idx Go.Proofs.Try.prog 26 = some (none, 3, false, 1) := by kernel_rfl
@[go_sem] theorem zer_26 : zeros Go.Proofs.Try.prog 26 = some [.val (.slice none 0 0)] := by kernel_rfl
@[go_sem] theorem byt_26 : (Go.Proofs.Try.prog).bytesOf 26 = 24 := by kernel_rfl
@[go_sem] theorem lay_27 : lay Go.Proofs.Try.prog 27 = some (true, 2) := by kernel_rfl
@[go_sem] theorem fld_27_0 : fld Go.Proofs.Try.prog 27 0 = some (0, false, 1) := by kernel_rfl
@[go_sem] theorem fld_27_1 : fld Go.Proofs.Try.prog 27 1 = some (1, false, 1) := by kernel_rfl
@[go_sem] theorem plc_27 : placesOf Go.Proofs.Try.prog 27 = some (#[(0, 1), (1, 1)][·]?) := by kernel_rfl
@[go_sem] theorem zer_27 : zeros Go.Proofs.Try.prog 27 = some [.val (.slice none 0 0), .val (.int .i64 0)] := by kernel_rfl
@[go_sem] theorem byt_27 : (Go.Proofs.Try.prog).bytesOf 27 = 32 := by kernel_rfl
@[go_sem] theorem lay_28 : lay Go.Proofs.Try.prog 28 = some (true, 2) := by kernel_rfl
@[go_sem] theorem fld_28_0 : fld Go.Proofs.Try.prog 28 0 = some (0, false, 1) := by kernel_rfl
@[go_sem] theorem fld_28_1 : fld Go.Proofs.Try.prog 28 1 = some (1, false, 1) := by kernel_rfl
@[go_sem] theorem plc_28 : placesOf Go.Proofs.Try.prog 28 = some (#[(0, 1), (1, 1)][·]?) := by kernel_rfl
@[go_sem] theorem zer_28 : zeros Go.Proofs.Try.prog 28 = some [.val (.slice none 0 0), .val (.int .i64 0)] := by kernel_rfl
@[go_sem] theorem byt_28 : (Go.Proofs.Try.prog).bytesOf 28 = 32 := by kernel_rfl
@[go_sem] theorem lay_29 : lay Go.Proofs.Try.prog 29 = some (false, 1) := by kernel_rfl
@[go_sem] theorem zer_29 : zeros Go.Proofs.Try.prog 29 = some [.val .nilFunc] := by kernel_rfl
@[go_sem] theorem byt_29 : (Go.Proofs.Try.prog).bytesOf 29 = 8 := by kernel_rfl
@[go_sem] theorem lay_30 : lay Go.Proofs.Try.prog 30 = some (false, 1) := by kernel_rfl
@[go_sem] theorem zer_30 : zeros Go.Proofs.Try.prog 30 = some [.val .nilFunc] := by kernel_rfl
@[go_sem] theorem byt_30 : (Go.Proofs.Try.prog).bytesOf 30 = 8 := by kernel_rfl
@[go_sem] theorem lay_31 : lay Go.Proofs.Try.prog 31 = some (false, 1) := by kernel_rfl
@[go_sem] theorem zer_31 : zeros Go.Proofs.Try.prog 31 = some [.val .nilFunc] := by kernel_rfl
@[go_sem] theorem byt_31 : (Go.Proofs.Try.prog).bytesOf 31 = 8 := by kernel_rfl
@[go_sem] theorem lay_32 : lay Go.Proofs.Try.prog 32 = some (false, 1) := by kernel_rfl
@[go_sem] theorem zer_32 : zeros Go.Proofs.Try.prog 32 = some [.val .nilFunc] := by kernel_rfl
@[go_sem] theorem byt_32 : (Go.Proofs.Try.prog).bytesOf 32 = 8 := by kernel_rfl
@[go_sem] theorem lay_33 : lay Go.Proofs.Try.prog 33 = some (false, 1) := by kernel_rfl
@[go_sem] theorem zer_33 : zeros Go.Proofs.Try.prog 33 = some [.val .nilFunc] := by kernel_rfl
@[go_sem] theorem byt_33 : (Go.Proofs.Try.prog).bytesOf 33 = 8 := by kernel_rfl
@[go_sem] theorem lay_34 : lay Go.Proofs.Try.prog 34 = some (false, 1) := by kernel_rfl
@[go_sem] theorem und_34 : (Go.Proofs.Try.prog).underlying 34 = some (.int .i64) := by kernel_rfl
@[go_sem] theorem zer_34 : zeros Go.Proofs.Try.prog 34 = some [.val (.int .i64 0)] := by kernel_rfl
@[go_sem] theorem byt_34 : (Go.Proofs.Try.prog).bytesOf 34 = 8 := by kernel_rfl
@[go_sem] theorem lay_36 : lay Go.Proofs.Try.prog 36 = some (false, 1) := by kernel_rfl
@[go_sem] theorem zer_36 : zeros Go.Proofs.Try.prog 36 = some [.val .nilFunc] := by kernel_rfl
@[go_sem] theorem byt_36 : (Go.Proofs.Try.prog).bytesOf 36 = 8 := by kernel_rfl
@[go_sem] theorem lay_38 : lay Go.Proofs.Try.prog 38 = some (false, 1) := by kernel_rfl
@[go_sem] theorem zer_38 : zeros Go.Proofs.Try.prog 38 = some [.val .nilFunc] := by kernel_rfl
@[go_sem] theorem byt_38 : (Go.Proofs.Try.prog).bytesOf 38 = 8 := by kernel_rfl
@[go_sem] theorem lay_39 : lay Go.Proofs.Try.prog 39 = some (false, 1) := by kernel_rfl
@[go_sem] theorem zer_39 : zeros Go.Proofs.Try.prog 39 = some [.val .nilFunc] := by kernel_rfl
@[go_sem] theorem byt_39 : (Go.Proofs.Try.prog).bytesOf 39 = 8 := by kernel_rfl
@[go_sem] theorem lay_40 : lay Go.Proofs.Try.prog 40 = some (false, 1) := by kernel_rfl
@[go_sem] theorem zer_40 : zeros Go.Proofs.Try.prog 40 = some [.val .nilFunc] := by kernel_rfl
@[go_sem] theorem byt_40 : (Go.Proofs.Try.prog).bytesOf 40 = 8 := by kernel_rfl
@[go_sem] theorem lay_41 : lay Go.Proofs.Try.prog 41 = some (false, 1) := by kernel_rfl
@[go_sem] theorem zer_41 : zeros Go.Proofs.Try.prog 41 = some [.val .nilFunc] := by kernel_rfl
@[go_sem] theorem byt_41 : (Go.Proofs.Try.prog).bytesOf 41 = 8 := by kernel_rfl
@[go_sem] theorem lay_42 : lay Go.Proofs.Try.prog 42 = some (false, 1) := by kernel_rfl
@[go_sem] theorem zer_42 : zeros Go.Proofs.Try.prog 42 = some [.val .nilFunc] := by kernel_rfl
@[go_sem] theorem byt_42 : (Go.Proofs.Try.prog).bytesOf 42 = 8 := by kernel_rfl
@[go_sem] theorem lay_43 : lay Go.Proofs.Try.prog 43 = some (false, 1) := by kernel_rfl
@[go_sem] theorem zer_43 : zeros Go.Proofs.Try.prog 43 = some [.val .nilFunc] := by kernel_rfl
@[go_sem] theorem byt_43 : (Go.Proofs.Try.prog).bytesOf 43 = 8 := by kernel_rfl
@[go_sem] theorem lay_44 : lay Go.Proofs.Try.prog 44 = some (false, 1) := by kernel_rfl
@[go_sem] theorem zer_44 : zeros Go.Proofs.Try.prog 44 = some [.val .nilFunc] := by kernel_rfl
@[go_sem] theorem byt_44 : (Go.Proofs.Try.prog).bytesOf 44 = 8 := by kernel_rfl
@[go_sem] theorem lay_45 : lay Go.Proofs.Try.prog 45 = some (false, 1) := by kernel_rfl
@[go_sem] theorem zer_45 : zeros Go.Proofs.Try.prog 45 = some [.val .nilFunc] := by kernel_rfl
@[go_sem] theorem byt_45 : (Go.Proofs.Try.prog).bytesOf 45 = 8 := by kernel_rfl
@[go_sem] theorem lay_46 : lay Go.Proofs.Try.prog 46 = some (false, 1) := by kernel_rfl
@[go_sem] theorem zer_46 : zeros Go.Proofs.Try.prog 46 = some [.val .nilFunc] := by kernel_rfl
@[go_sem] theorem byt_46 : (Go.Proofs.Try.prog).bytesOf 46 = 8 := by kernel_rfl
@[go_sem] theorem lay_47 : lay Go.Proofs.Try.prog 47 = some (false, 1) := by kernel_rfl
@[go_sem] theorem zer_47 : zeros Go.Proofs.Try.prog 47 = some [.val .nilFunc] := by kernel_rfl
@[go_sem] theorem byt_47 : (Go.Proofs.Try.prog).bytesOf 47 = 8 := by kernel_rfl
@[go_sem] theorem lay_48 : lay Go.Proofs.Try.prog 48 = some (false, 1) := by kernel_rfl
@[go_sem] theorem zer_48 : zeros Go.Proofs.Try.prog 48 = some [.val .nilFunc] := by kernel_rfl
@[go_sem] theorem byt_48 : (Go.Proofs.Try.prog).bytesOf 48 = 8 := by kernel_rfl
@[go_sem] theorem lay_49 : lay Go.Proofs.Try.prog 49 = some (false, 1) := by kernel_rfl
@[go_sem] theorem zer_49 : zeros Go.Proofs.Try.prog 49 = some [.val .nilFunc] := by kernel_rfl
@[go_sem] theorem byt_49 : (Go.Proofs.Try.prog).bytesOf 49 = 8 := by kernel_rfl
@[go_sem] theorem lay_50 : lay Go.Proofs.Try.prog 50 = some (false, 1) := by kernel_rfl
@[go_sem] theorem zer_50 : zeros Go.Proofs.Try.prog 50 = some [.val .nilFunc] := by kernel_rfl
@[go_sem] theorem byt_50 : (Go.Proofs.Try.prog).bytesOf 50 = 8 := by kernel_rfl
@[go_sem] theorem lay_52 : lay Go.Proofs.Try.prog 52 = some (false, 1) := by kernel_rfl
@[go_sem] theorem zer_52 : zeros Go.Proofs.Try.prog 52 = some [.val .nilFunc] := by kernel_rfl
@[go_sem] theorem byt_52 : (Go.Proofs.Try.prog).bytesOf 52 = 8 := by kernel_rfl
@[go_sem] theorem lay_53 : lay Go.Proofs.Try.prog 53 = some (false, 1) := by kernel_rfl
@[go_sem] theorem zer_53 : zeros Go.Proofs.Try.prog 53 = some [.val .nilFunc] := by kernel_rfl
@[go_sem] theorem byt_53 : (Go.Proofs.Try.prog).bytesOf 53 = 8 := by kernel_rfl
@[go_sem] theorem lay_54 : lay Go.Proofs.Try.prog 54 = some (false, 1) := by kernel_rfl
@[go_sem] theorem zer_54 : zeros Go.Proofs.Try.prog 54 = some [.val .nilFunc] := by kernel_rfl
@[go_sem] theorem byt_54 : (Go.Proofs.Try.prog).bytesOf 54 = 8 := by kernel_rfl
@[go_sem] theorem lay_55 : lay Go.Proofs.Try.prog 55 = some (false, 1) := by kernel_rfl
@[go_sem] theorem zer_55 : zeros Go.Proofs.Try.prog 55 = some [.val .nilFunc] := by kernel_rfl
@[go_sem] theorem byt_55 : (Go.Proofs.Try.prog).bytesOf 55 = 8 := by kernel_rfl
@[go_sem] theorem lay_56 : lay Go.Proofs.Try.prog 56 = some (false, 1) := by kernel_rfl
@[go_sem] theorem zer_56 : zeros Go.Proofs.Try.prog 56 = some [.val .nilFunc] := by kernel_rfl
@[go_sem] theorem byt_56 : (Go.Proofs.Try.prog).bytesOf 56 = 8 := by kernel_rfl
@[go_sem] theorem lay_57 : lay Go.Proofs.Try.prog 57 = some (false, 1) := by kernel_rfl
@[go_sem] theorem zer_57 : zeros Go.Proofs.Try.prog 57 = some [.val .nilFunc] := by kernel_rfl
@[go_sem] theorem byt_57 : (Go.Proofs.Try.prog).bytesOf 57 = 8 := by kernel_rfl
@[go_sem] theorem lay_58 : lay Go.Proofs.Try.prog 58 = some (true, 2) := by kernel_rfl
@[go_sem] theorem fld_58_0 : fld Go.Proofs.Try.prog 58 0 = some (0, false, 1) := by kernel_rfl
@[go_sem] theorem fld_58_1 : fld Go.Proofs.Try.prog 58 1 = some (1, false, 1) := by kernel_rfl
@[go_sem] theorem plc_58 : placesOf Go.Proofs.Try.prog 58 = some (#[(0, 1), (1, 1)][·]?) := by kernel_rfl
@[go_sem] theorem zer_58 : zeros Go.Proofs.Try.prog 58 = some [.val (.slice none 0 0), .val (.int .i64 0)] := by kernel_rfl
@[go_sem] theorem byt_58 : (Go.Proofs.Try.prog).bytesOf 58 = 32 := by kernel_rfl
@[go_sem] theorem lay_59 : lay Go.Proofs.Try.prog 59 = some (true, 2) := by kernel_rfl
@[go_sem] theorem fld_59_0 : fld Go.Proofs.Try.prog 59 0 = some (0, false, 1) := by kernel_rfl
@[go_sem] theorem fld_59_1 : fld Go.Proofs.Try.prog 59 1 = some (1, false, 1) := by kernel_rfl
@[go_sem] theorem plc_59 : placesOf Go.Proofs.Try.prog 59 = some (#[(0, 1), (1, 1)][·]?) := by kernel_rfl
@[go_sem] theorem zer_59 : zeros Go.Proofs.Try.prog 59 = some [.val (.slice none 0 0), .val (.int .i64 0)] := by kernel_rfl
@[go_sem] theorem byt_59 : (Go.Proofs.Try.prog).bytesOf 59 = 32 := by kernel_rfl
@[go_sem] theorem lay_61 : lay Go.Proofs.Try.prog 61 = some (false, 1) := by kernel_rfl
@[go_sem] theorem zer_61 : zeros Go.Proofs.Try.prog 61 = some [.val .nilFunc] := by kernel_rfl
@[go_sem] theorem byt_61 : (Go.Proofs.Try.prog).bytesOf 61 = 8 := by kernel_rfl
@[go_sem] theorem lay_63 : lay Go.Proofs.Try.prog 63 = some (false, 1) := by kernel_rfl
@[go_sem] theorem zer_63 : zeros Go.Proofs.Try.prog 63 = some [.val .nilFunc] := by kernel_rfl
@[go_sem] theorem byt_63 : (Go.Proofs.Try.prog).bytesOf 63 = 8 := by kernel_rfl
@[go_sem] theorem lay_64 : lay Go.Proofs.Try.prog 64 = some (false, 1) := by kernel_rfl
@[go_sem] theorem zer_64 : zeros Go.Proofs.Try.prog 64 = some [.val .nilFunc] := by kernel_rfl
@[go_sem] theorem byt_64 : (Go.Proofs.Try.prog).bytesOf 64 = 8 := by kernel_rfl
@[go_sem] theorem lay_65 : lay Go.Proofs.Try.prog 65 = some (false, 1) := by kernel_rfl
@[go_sem] theorem zer_65 : zeros Go.Proofs.Try.prog 65 = some [.val .nilFunc] := by kernel_rfl
@[go_sem] theorem byt_65 : (Go.Proofs.Try.prog).bytesOf 65 = 8 := by kernel_rfl
@[go_sem] theorem lay_67 : lay Go.Proofs.Try.prog 67 = some (false, 1) := by kernel_rfl
@[go_sem] theorem zer_67 : zeros Go.Proofs.Try.prog 67 = some [.val .nilFunc] := by kernel_rfl
@[go_sem] theorem byt_67 : (Go.Proofs.Try.prog).bytesOf 67 = 8 := by kernel_rfl
@[go_sem] theorem lay_68 : lay Go.Proofs.Try.prog 68 = some (false, 1) := by kernel_rfl
@[go_sem] theorem zer_68 : zeros Go.Proofs.Try.prog 68 = some [.val .nilFunc] := by kernel_rfl
@[go_sem] theorem byt_68 : (Go.Proofs.Try.prog).bytesOf 68 = 8 := by kernel_rfl
@[go_sem] theorem lay_69 : lay Go.Proofs.Try.prog 69 = some (false, 1) := by kernel_rfl
@[go_sem] theorem und_69 : (Go.Proofs.Try.prog).underlying 69 = some (.slice 135) := by kernel_rfl
@[go_sem] theorem idx_69 : idx Go.Proofs.Try.prog 69 = some (none, 135, true, 2) := by kernel_rfl
@[go_sem] theorem zer_69 : zeros Go.Proofs.Try.prog 69 = some [.val (.slice none 0 0)] := by kernel_rfl
@[go_sem] theorem byt_69 : (Go.Proofs.Try.prog).bytesOf 69 = 24 := by kernel_rfl
@[go_sem] theorem lay_70 : lay Go.Proofs.Try.prog 70 = some (true, 3) := by kernel_rfl
@[go_sem] theorem fld_70_0 : fld Go.Proofs.Try.prog 70 0 = some (0, false, 1) := by kernel_rfl
@[go_sem] theorem fld_70_1 : fld Go.Proofs.Try.prog 70 1 = some (1, false, 1) := by kernel_rfl
@[go_sem] theorem fld_70_2 : fld Go.Proofs.Try.prog 70 2 = some (2, false, 1) := by kernel_rfl
@[go_sem] theorem plc_70 : placesOf Go.Proofs.Try.prog 70 = some (#[(0, 1), (1, 1), (2, 1)][·]?) := by kernel_rfl
@[go_sem] theorem zer_70 : zeros Go.Proofs.Try.prog 70 = some [.val (.int .u8 0), .val (.slice none 0 0), .val (.slice none 0 0)] := by kernel_rfl
@[go_sem] theorem byt_70 : (Go.Proofs.Try.prog).bytesOf 70 = 56 := by kernel_rfl
@[go_sem] theorem lay_71 : lay Go.Proofs.Try.prog 71 = some (true, 3) := by kernel_rfl
@[go_sem] theorem fld_71_0 : fld Go.Proofs.Try.prog 71 0 = some (0, false, 1) := by kernel_rfl
@[go_sem] theorem fld_71_1 : fld Go.Proofs.Try.prog 71 1 = some (1, false, 1) := by kernel_rfl
@[go_sem] theorem fld_71_2 : fld Go.Proofs.Try.prog 71 2 = some (2, false, 1) := by kernel_rfl
@[go_sem] theorem plc_71 : placesOf Go.Proofs.Try.prog 71 = some (#[(0, 1), (1, 1), (2, 1)][·]?) := by kernel_rfl
@[go_sem] theorem zer_71 : zeros Go.Proofs.Try.prog 71 = some [.val (.int .u8 0), .val (.slice none 0 0), .val (.slice none 0 0)] := by kernel_rfl
@[go_sem] theorem byt_71 : (Go.Proofs.Try.prog).bytesOf 71 = 56 := by kernel_rfl
@[go_sem] theorem lay_72 : lay Go.Proofs.Try.prog 72 = some (false, 1) := by kernel_rfl
@[go_sem] theorem und_72 : (Go.Proofs.Try.prog).underlying 72 = some (.slice 5) := by kernel_rfl
@[go_sem] theorem idx_72 : idx Go.Proofs.Try.prog 72 = some (none, 5, false, 1) := by kernel_rfl
@[go_sem] theorem zer_72 : zeros Go.Proofs.Try.prog 72 = some [.val (.slice none 0 0)] := by kernel_rfl
@[go_sem] theorem byt_72 : (Go.Proofs.Try.prog).bytesOf 72 = 24 := by kernel_rfl
@[go_sem] theorem lay_73 : lay Go.Proofs.Try.prog 73 = some (true, 6) := by kernel_rfl
@[go_sem] theorem und_73 : (Go.Proofs.Try.prog).underlying 73 = some (.array 6 5) := by kernel_rfl
@[go_sem] theorem idx_73 : idx Go.Proofs.Try.prog 73 = some (some 6, 5, false, 1) := by kernel_rfl
@[go_sem] theorem plc_73 : placesOf Go.Proofs.Try.prog 73 = some (fun i => some (i * 1, 1)) := by kernel_rfl
@[go_sem] theorem zer_73 : zeros Go.Proofs.Try.prog 73 = some [.val (.int .u8 0), .val (.int .u8 0), .val (.int .u8 0), .val (.int .u8 0), .val (.int .u8 0), .val (.int .u8 0)] := by kernel_rfl
@[go_sem] theorem byt_73 : (Go.Proofs.Try.prog).bytesOf 73 = 6 := by kernel_rfl
@[go_sem] theorem lay_74 : lay Go.Proofs.Try.prog 74 = some (false, 1) := by kernel_rfl
@[go_sem] theorem zer_74 : zeros Go.Proofs.Try.prog 74 = some [.val .nilFunc] := by kernel_rfl
@[go_sem] theorem byt_74 : (Go.Proofs.Try.prog).bytesOf 74 = 8 := by kernel_rfl
@[go_sem] theorem lay_75 : lay Go.Proofs.Try.prog 75 = some (false, 1) := by kernel_rfl
@[go_sem] theorem zer_75 : zeros Go.Proofs.Try.prog 75 = some [.val .nilFunc] := by kernel_rfl
@[go_sem] theorem byt_75 : (Go.Proofs.Try.prog).bytesOf 75 = 8 := by kernel_rfl
@[go_sem] theorem lay_76 : lay Go.Proofs.Try.prog 76 = some (false, 1) := by kernel_rfl
@[go_sem] theorem und_76 : (Go.Proofs.Try.prog).underlying 76 = some (.int .i64) := by kernel_rfl
@[go_sem] theorem zer_76 : zeros Go.Proofs.Try.prog 76 = some [.val (.int .i64 0)] := by kernel_rfl
@[go_sem] theorem byt_76 : (Go.Proofs.Try.prog).bytesOf 76 = 8 := by kernel_rfl
@[go_sem] theorem lay_78 : lay Go.Proofs.Try.prog 78 = some (false, 1) := by kernel_rfl
@[go_sem] theorem zer_78 : zeros Go.Proofs.Try.prog 78 = some [.val .nilFunc] := by kernel_rfl
@[go_sem] theorem byt_78 : (Go.Proofs.Try.prog).bytesOf 78 = 8 := by kernel_rfl
@[go_sem] theorem lay_79 : lay Go.Proofs.Try.prog 79 = some (false, 1) := by kernel_rfl
@[go_sem] theorem und_79 : (Go.Proofs.Try.prog).underlying 79 = some (.slice 82) := by kernel_rfl
@[go_sem] theorem idx_79 : idx Go.Proofs.Try.prog 79 = some (none, 82, false, 1) := by kernel_rfl
@[go_sem] theorem zer_79 : zeros Go.Proofs.Try.prog 79 = some [.val (.slice none 0 0)] := by kernel_rfl
@[go_sem] theorem byt_79 : (Go.Proofs.Try.prog).bytesOf 79 = 24 := by kernel_rfl
@[go_sem] theorem lay_81 : lay Go.Proofs.Try.prog 81 = some (false, 1) := by kernel_rfl
@[go_sem] theorem zer_81 : zeros Go.Proofs.Try.prog 81 = some [.val .nilFunc] := by kernel_rfl
@[go_sem] theorem byt_81 : (Go.Proofs.Try.prog).bytesOf 81 = 8 := by kernel_rfl
@[go_sem] theorem lay_82 : lay Go.Proofs.Try.prog 82 = some (false, 1) := by kernel_rfl
@[go_sem] theorem und_82 : (Go.Proofs.Try.prog).underlying 82 = some (.slice 76) := by kernel_rfl
@[go_sem] theorem idx_82 : idx Go.Proofs.Try.prog 82 = some (none, 76, false, 1) := by kernel_rfl
@[go_sem] theorem zer_82 : zeros Go.Proofs.Try.prog 82 = some [.val (.slice none 0 0)] := by kernel_rfl
@[go_sem] theorem byt_82 : (Go.Proofs.Try.prog).bytesOf 82 = 24 := by kernel_rfl
@[go_sem] theorem lay_84 : lay Go.Proofs.Try.prog 84 = some (false, 1) := by kernel_rfl
@[go_sem] theorem zer_84 : zeros Go.Proofs.Try.prog 84 = some [.val .nilFunc] := by kernel_rfl
@[go_sem] theorem byt_84 : (Go.Proofs.Try.prog).bytesOf 84 = 8 := by kernel_rfl
@[go_sem] theorem lay_85 : lay Go.Proofs.Try.prog 85 = some (false, 1) := by kernel_rfl
@[go_sem] theorem zer_85 : zeros Go.Proofs.Try.prog 85 = some [.val .nilFunc] := by kernel_rfl
@[go_sem] theorem byt_85 : (Go.Proofs.Try.prog).bytesOf 85 = 8 := by kernel_rfl
@[go_sem] theorem lay_86 : lay Go.Proofs.Try.prog 86 = some (false, 1) := by kernel_rfl
@[go_sem] theorem zer_86 : zeros Go.Proofs.Try.prog 86 = some [.val .nilFunc] := by kernel_rfl
@[go_sem] theorem byt_86 : (Go.Proofs.Try.prog).bytesOf 86 = 8 := by kernel_rfl
@[go_sem] theorem lay_87 : lay Go.Proofs.Try.prog 87 = some (false, 1) := by kernel_rfl
@[go_sem] theorem zer_87 : zeros Go.Proofs.Try.prog 87 = some [.val .nilFunc] := by kernel_rfl
@[go_sem] theorem byt_87 : (Go.Proofs.Try.prog).bytesOf 87 = 8 := by kernel_rfl
@[go_sem] theorem lay_88 : lay Go.Proofs.Try.prog 88 = some (true, 4) := by kernel_rfl
@[go_sem] theorem und_88 : (Go.Proofs.Try.prog).underlying 88 = some (.array 4 3) := by kernel_rfl
@[go_sem] theorem idx_88 : idx Go.Proofs.Try.prog 88 = some (some 4, 3, false, 1) := by kernel_rfl
@[go_sem] theorem plc_88 : placesOf Go.Proofs.Try.prog 88 = some (fun i => some (i * 1, 1)) := by kernel_rfl
@[go_sem] theorem zer_88 : zeros Go.Proofs.Try.prog 88 = some [.val (.int .i64 0), .val (.int .i64 0), .val (.int .i64 0), .val (.int .i64 0)] := by kernel_rfl
@[go_sem] theorem byt_88 : (Go.Proofs.Try.prog).bytesOf 88 = 32 := by kernel_rfl
@[go_sem] theorem lay_89 : lay Go.Proofs.Try.prog 89 = some (false, 1) := by kernel_rfl
@[go_sem] theorem zer_89 : zeros Go.Proofs.Try.prog 89 = some [.val .nilFunc] := by kernel_rfl
@[go_sem] theorem byt_89 : (Go.Proofs.Try.prog).bytesOf 89 = 8 := by kernel_rfl
@[go_sem] theorem lay_90 : lay Go.Proofs.Try.prog 90 = some (true, 3) := by kernel_rfl
@[go_sem] theorem und_90 : (Go.Proofs.Try.prog).underlying 90 = some (.array 3 5) := by kernel_rfl
@[go_sem] theorem idx_90 : idx Go.Proofs.Try.prog 90 = some (some 3, 5, false, 1) := by kernel_rfl
@[go_sem] theorem plc_90 : placesOf Go.Proofs.Try.prog 90 = some (fun i => some (i * 1, 1)) := by kernel_rfl
@[go_sem] theorem zer_90 : zeros Go.Proofs.Try.prog 90 = some [.val (.int .u8 0), .val (.int .u8 0), .val (.int .u8 0)] := by kernel_rfl
@[go_sem] theorem byt_90 : (Go.Proofs.Try.prog).bytesOf 90 = 3 := by kernel_rfl
@[go_sem] theorem lay_91 : lay Go.Proofs.Try.prog 91 = some (true, 15) := by kernel_rfl
@[go_sem] theorem und_91 : (Go.Proofs.Try.prog).underlying 91 = some (.array 5 90) := by kernel_rfl
@[go_sem] theorem idx_91 : idx Go.Proofs.Try.prog 91 = some (some 5, 90, true, 3) := by kernel_rfl
@[go_sem] theorem plc_91 : placesOf Go.Proofs.Try.prog 91 = some (fun i => some (i * 3, 3)) := by kernel_rfl
@[go_sem] theorem zer_91 : zeros Go.Proofs.Try.prog 91 = some [.val (.int .u8 0), .val (.int .u8 0), .val (.int .u8 0), .val (.int .u8 0), .val (.int .u8 0), .val (.int .u8 0), .val (.int .u8 0), .val (.int .u8 0), .val (.int .u8 0), .val (.int .u8 0), .val (.int .u8 0), .val (.int .u8 0), .val (.int .u8 0), .val (.int .u8 0), .val (.int .u8 0)] := by kernel_rfl
@[go_sem] theorem byt_91 : (Go.Proofs.Try.prog).bytesOf 91 = 15 := by kernel_rfl
@[go_sem] theorem lay_92 : lay Go.Proofs.Try.prog 92 = some (true, 4) := by kernel_rfl
@[go_sem] theorem und_92 : (Go.Proofs.Try.prog).underlying 92 = some (.array 4 5) := by kernel_rfl
@[go_sem] theorem idx_92 : idx Go.Proofs.Try.prog 92 = some (some 4, 5, false, 1) := by kernel_rfl
@[go_sem] theorem plc_92 : placesOf Go.Proofs.Try.prog 92 = some (fun i => some (i * 1, 1)) := by kernel_rfl
@[go_sem] theorem zer_92 : zeros Go.Proofs.Try.prog 92 = some [.val (.int .u8 0), .val (.int .u8 0), .val (.int .u8 0), .val (.int .u8 0)] := by kernel_rfl
@[go_sem] theorem byt_92 : (Go.Proofs.Try.prog).bytesOf 92 = 4 := by kernel_rfl
@[go_sem] theorem lay_93 : lay Go.Proofs.Try.prog 93 = some (false, 1) := by kernel_rfl
@[go_sem] theorem zer_93 : zeros Go.Proofs.Try.prog 93 = some [.val .nilFunc] := by kernel_rfl
@[go_sem] theorem byt_93 : (Go.Proofs.Try.prog).bytesOf 93 = 8 := by kernel_rfl
@[go_sem] theorem lay_94 : lay Go.Proofs.Try.prog 94 = some (false, 1) := by kernel_rfl
@[go_sem] theorem zer_94 : zeros Go.Proofs.Try.prog 94 = some [.val .nilFunc] := by kernel_rfl
@[go_sem] theorem byt_94 : (Go.Proofs.Try.prog).bytesOf 94 = 8 := by kernel_rfl
@[go_sem] theorem lay_95 : lay Go.Proofs.Try.prog 95 = some (true, 8) := by kernel_rfl
@[go_sem] theorem und_95 : (Go.Proofs.Try.prog).underlying 95 = some (.array 8 5) := by kernel_rfl
@[go_sem] theorem idx_95 : idx Go.Proofs.Try.prog 95 = some (some 8, 5, false, 1) := by kernel_rfl
@[go_sem] theorem plc_95 : placesOf Go.Proofs.Try.prog 95 = some (fun i => some (i * 1, 1)) := by kernel_rfl
@[go_sem] theorem zer_95 : zeros Go.Proofs.Try.prog 95 = some [.val (.int .u8 0), .val (.int .u8 0), .val (.int .u8 0), .val (.int .u8 0), .val (.int .u8 0), .val (.int .u8 0), .val (.int .u8 0), .val (.int .u8 0)] := by kernel_rfl
@[go_sem] theorem byt_95 : (Go.Proofs.Try.prog).bytesOf 95 = 8 := by kernel_rfl
@[go_sem] theorem lay_96 : lay Go.Proofs.Try.prog 96 = some (false, 1) := by kernel_rfl
@[go_sem] theorem zer_96 : zeros Go.Proofs.Try.prog 96 = some [.val .nilFunc] := by kernel_rfl
@[go_sem] theorem byt_96 : (Go.Proofs.Try.prog).bytesOf 96 = 8 := by kernel_rfl
@[go_sem] theorem lay_97 : lay Go.Proofs.Try.prog 97 = some (false, 1) := by kernel_rfl
@[go_sem] theorem zer_97 : zeros Go.Proofs.Try.prog 97 = some [.val .nilFunc] := by kernel_rfl
@[go_sem] theorem byt_97 : (Go.Proofs.Try.prog).bytesOf 97 = 8 := by kernel_rfl
@[go_sem] theorem lay_98 : lay Go.Proofs.Try.prog 98 = some (false, 1) := by kernel_rfl
@[go_sem] theorem und_98 : (Go.Proofs.Try.prog).underlying 98 = some (.slice 72) := by kernel_rfl
@[go_sem] theorem idx_98 : idx Go.Proofs.Try.prog 98 = some (none, 72, false, 1) := by kernel_rfl
@[go_sem] theorem zer_98 : zeros Go.Proofs.Try.prog 98 = some [.val (.slice none 0 0)] := by kernel_rfl
@[go_sem] theorem byt_98 : (Go.Proofs.Try.prog).bytesOf 98 = 24 := by kernel_rfl
@[go_sem] theorem lay_99 : lay Go.Proofs.Try.prog 99 = some (false, 1) := by kernel_rfl
@[go_sem] theorem zer_99 : zeros Go.Proofs.Try.prog 99 = some [.val .nilFunc] := by kernel_rfl
@[go_sem] theorem byt_99 : (Go.Proofs.Try.prog).bytesOf 99 = 8 := by kernel_rfl
@[go_sem] theorem lay_100 : lay Go.Proofs.Try.prog 100 = some (true, 32) := by kernel_rfl
@[go_sem] theorem und_100 : (Go.Proofs.Try.prog).underlying 100 = some (.array 4 95) := by kernel_rfl
@[go_sem] theorem idx_100 : idx Go.Proofs.Try.prog 100 = some (some 4, 95, true, 8) := by kernel_rfl
@[go_sem] theorem plc_100 : placesOf Go.Proofs.Try.prog 100 = some (fun i => some (i * 8, 8)) := by kernel_rfl
@[go_sem] theorem zer_100 : zeros Go.Proofs.Try.prog 100 = some [.val (.int .u8 0), .val (.int .u8 0), .val (.int .u8 0), .val (.int .u8 0), .val (.int .u8 0), .val (.int .u8 0), .val (.int .u8 0), .val (.int .u8 0), .val (.int .u8 0), .val (.int .u8 0), .val (.int .u8 0), .val (.int .u8 0), .val (.int .u8 0), .val (.int .u8 0), .val (.int .u8 0), .val (.int .u8 0), .val (.int .u8 0), .val (.int .u8 0), .val (.int .u8 0), .val (.int .u8 0), .val (.int .u8 0), .val (.int .u8 0), .val (.int .u8 0), .val (.int .u8 0), .val (.int .u8 0), .val (.int .u8 0), .val (.int .u8 0), .val (.int .u8 0), .val (.int .u8 0), .val (.int .u8 0), .val (.int .u8 0), .val (.int .u8 0)] := by kernel_rfl
@[go_sem] theorem byt_100 : (Go.Proofs.Try.prog).bytesOf 100 = 32 := by kernel_rfl
@[go_sem] theorem lay_101 : lay Go.Proofs.Try.prog 101 = some (true, 10) := by kernel_rfl
@[go_sem] theorem und_101 : (Go.Proofs.Try.prog).underlying 101 = some (.array 10 5) := by kernel_rfl
@[go_sem] theorem idx_101 : idx Go.Proofs.Try.prog 101 = some (some 10, 5, false, 1) := by kernel_rfl
@[go_sem] theorem plc_101 : placesOf Go.Proofs.Try.prog 101 = some (fun i => some (i * 1, 1)) := by kernel_rfl
@[go_sem] theorem zer_101 : zeros Go.Proofs.Try.prog 101 = some [.val (.int .u8 0), .val (.int .u8 0), .val (.int .u8 0), .val (.int .u8 0), .val (.int .u8 0), .val (.int .u8 0), .val (.int .u8 0), .val (.int .u8 0), .val (.int .u8 0), .val (.int .u8 0)] := by kernel_rfl
@[go_sem] theorem byt_101 : (Go.Proofs.Try.prog).bytesOf 101 = 10 := by kernel_rfl
@[go_sem] theorem lay_102 : lay Go.Proofs.Try.prog 102 = some (false, 1) := by kernel_rfl
@[go_sem] theorem und_102 : (Go.Proofs.Try.prog).underlying 102 = some (.int .u64) := by kernel_rfl
@[go_sem] theorem zer_102 : zeros Go.Proofs.Try.prog 102 = some [.val (.int .u64 0)] := by kernel_rfl
@[go_sem] theorem byt_102 : (Go.Proofs.Try.prog).bytesOf 102 = 8 := by kernel_rfl
@[go_sem] theorem lay_103 : lay Go.Proofs.Try.prog 103 = some (false, 1) := by kernel_rfl
@[go_sem] theorem zer_103 : zeros Go.Proofs.Try.prog 103 = some [.val .nilFunc] := by kernel_rfl
@[go_sem] theorem byt_103 : (Go.Proofs.Try.prog).bytesOf 103 = 8 := by kernel_rfl
@[go_sem] theorem lay_104 : lay Go.Proofs.Try.prog 104 = some (false, 1) := by kernel_rfl
@[go_sem] theorem zer_104 : zeros Go.Proofs.Try.prog 104 = some [.val .nilFunc] := by kernel_rfl
@[go_sem] theorem byt_104 : (Go.Proofs.Try.prog).bytesOf 104 = 8 := by kernel_rfl
@[go_sem] theorem lay_106 : lay Go.Proofs.Try.prog 106 = some (false, 1) := by kernel_rfl
@[go_sem] theorem zer_106 : zeros Go.Proofs.Try.prog 106 = some [.val .nilFunc] := by kernel_rfl
@[go_sem] theorem byt_106 : (Go.Proofs.Try.prog).bytesOf 106 = 8 := by kernel_rfl
@[go_sem] theorem lay_107 : lay Go.Proofs.Try.prog 107 = some (false, 1) := by kernel_rfl
@[go_sem] theorem zer_107 : zeros Go.Proofs.Try.prog 107 = some [.val .nilFunc] := by kernel_rfl
@[go_sem] theorem byt_107 : (Go.Proofs.Try.prog).bytesOf 107 = 8 := by kernel_rfl
@[go_sem] theorem lay_108 : lay Go.Proofs.Try.prog 108 = some (false, 1) := by kernel_rfl
@[go_sem] theorem und_108 : (Go.Proofs.Try.prog).underlying 108 = some (.pointer 123) := by kernel_rfl
@[go_sem] theorem zer_108 : zeros Go.Proofs.Try.prog 108 = some [.val (.pointer none)] := by kernel_rfl
@[go_sem] theorem byt_108 : (Go.Proofs.Try.prog).bytesOf 108 = 8 := by kernel_rfl
@[go_sem] theorem lay_109 : lay Go.Proofs.Try.prog 109 = some (true, 5) := by kernel_rfl
@[go_sem] theorem fld_109_0 : fld Go.Proofs.Try.prog 109 0 = some (0, false, 1) := by kernel_rfl
@[go_sem] theorem fld_109_1 : fld Go.Proofs.Try.prog 109 1 = some (1, false, 1) := by kernel_rfl
@[go_sem] theorem fld_109_2 : fld Go.Proofs.Try.prog 109 2 = some (2, false, 1) := by kernel_rfl
@[go_sem] theorem fld_109_3 : fld Go.Proofs.Try.prog 109 3 = some (3, false, 1) := by kernel_rfl
@[go_sem] theorem fld_109_4 : fld Go.Proofs.Try.prog 109 4 = some (4, false, 1) := by kernel_rfl
@[go_sem] theorem plc_109 : placesOf Go.Proofs.Try.prog 109 = some (#[(0, 1), (1, 1), (2, 1), (3, 1), (4, 1)][·]?) := by kernel_rfl
@[go_sem] theorem zer_109 : zeros Go.Proofs.Try.prog 109 = some [.val (.pointer none), .val (.slice none 0 0), .val (.slice none 0 0), .val (.int .i64 0), .val (.slice none 0 0)] := by kernel_rfl
@[go_sem] theorem byt_109 : (Go.Proofs.Try.prog).bytesOf 109 = 88 := by kernel_rfl
@[go_sem] theorem lay_110 : lay Go.Proofs.Try.prog 110 = some (true, 5) := by kernel_rfl
@[go_sem] theorem fld_110_0 : fld Go.Proofs.Try.prog 110 0 = some (0, false, 1) := by kernel_rfl
@[go_sem] theorem fld_110_1 : fld Go.Proofs.Try.prog 110 1 = some (1, false, 1) := by kernel_rfl
@[go_sem] theorem fld_110_2 : fld Go.Proofs.Try.prog 110 2 = some (2, false, 1) := by kernel_rfl
@[go_sem] theorem fld_110_3 : fld Go.Proofs.Try.prog 110 3 = some (3, false, 1) := by kernel_rfl
@[go_sem] theorem fld_110_4 : fld Go.Proofs.Try.prog 110 4 = some (4, false, 1) := by kernel_rfl
@[go_sem] theorem plc_110 : placesOf Go.Proofs.Try.prog 110 = some (#[(0, 1), (1, 1), (2, 1), (3, 1), (4, 1)][·]?) := by kernel_rfl
@[go_sem] theorem zer_110 : zeros Go.Proofs.Try.prog 110 = some [.val (.pointer none), .val (.slice none 0 0), .val (.slice none 0 0), .val (.int .i64 0), .val (.slice none 0 0)] := by kernel_rfl
@[go_sem] theorem byt_110 : (Go.Proofs.Try.prog).bytesOf 110 = 88 := by kernel_rfl
@[go_sem] theorem lay_112 : lay Go.Proofs.Try.prog 112 = some (false, 1) := by kernel_rfl
@[go_sem] theorem zer_112 : zeros Go.Proofs.Try.prog 112 = some [.val .nilFunc] := by kernel_rfl
@[go_sem] theorem byt_112 : (Go.Proofs.Try.prog).bytesOf 112 = 8 := by kernel_rfl
@[go_sem] theorem lay_113 : lay Go.Proofs.Try.prog 113 = some (false, 1) := by kernel_rfl
@[go_sem] theorem zer_113 : zeros Go.Proofs.Try.prog 113 = some [.val .nilFunc] := by kernel_rfl
@[go_sem] theorem byt_113 : (Go.Proofs.Try.prog).bytesOf 113 = 8 := by kernel_rfl
@[go_sem] theorem lay_114 : lay Go.Proofs.Try.prog 114 = some (true, 2) := by kernel_rfl
@[go_sem] theorem fld_114_0 : fld Go.Proofs.Try.prog 114 0 = some (0, false, 1) := by kernel_rfl
@[go_sem] theorem fld_114_1 : fld Go.Proofs.Try.prog 114 1 = some (1, false, 1) := by kernel_rfl
@[go_sem] theorem plc_114 : placesOf Go.Proofs.Try.prog 114 = some (#[(0, 1), (1, 1)][·]?) := by kernel_rfl
@[go_sem] theorem flat_114 : flatInts Go.Proofs.Try.prog 114 = some 2 := by kernel_rfl
@[go_sem] theorem zer_114 : zeros Go.Proofs.Try.prog 114 = some [.val (.int .i64 0), .val (.int .i64 0)] := by kernel_rfl
@[go_sem] theorem byt_114 : (Go.Proofs.Try.prog).bytesOf 114 = 16 := by kernel_rfl
@[go_sem] theorem lay_115 : lay Go.Proofs.Try.prog 115 = some (true, 2) := by kernel_rfl
@[go_sem] theorem fld_115_0 : fld Go.Proofs.Try.prog 115 0 = some (0, false, 1) := by kernel_rfl
@[go_sem] theorem fld_115_1 : fld Go.Proofs.Try.prog 115 1 = some (1, false, 1) := by kernel_rfl
@[go_sem] theorem plc_115 : placesOf Go.Proofs.Try.prog 115 = some (#[(0, 1), (1, 1)][·]?) := by kernel_rfl
@[go_sem] theorem flat_115 : flatInts Go.Proofs.Try.prog 115 = some 2 := by kernel_rfl
@[go_sem] theorem zer_115 : zeros Go.Proofs.Try.prog 115 = some [.val (.int .i64 0), .val (.int .i64 0)] := by kernel_rfl
@[go_sem] theorem byt_115 : (Go.Proofs.Try.prog).bytesOf 115 = 16 := by kernel_rfl
@[go_sem] theorem lay_116 : lay Go.Proofs.Try.prog 116 = some (false, 1) := by kernel_rfl
@[go_sem] theorem zer_116 : zeros Go.Proofs.Try.prog 116 = some [.val .nilFunc] := by kernel_rfl
@[go_sem] theorem byt_116 : (Go.Proofs.Try.prog).bytesOf 116 = 8 := by kernel_rfl
@[go_sem] theorem lay_118 : lay Go.Proofs.Try.prog 118 = some (false, 1) := by kernel_rfl
@[go_sem] theorem zer_118 : zeros Go.Proofs.Try.prog 118 = some [.val .nilFunc] := by kernel_rfl
@[go_sem] theorem byt_118 : (Go.Proofs.Try.prog).bytesOf 118 = 8 := by kernel_rfl
@[go_sem] theorem lay_119 : lay Go.Proofs.Try.prog 119 = some (false, 1) := by kernel_rfl
@[go_sem] theorem zer_119 : zeros Go.Proofs.Try.prog 119 = some [.val .nilFunc] := by kernel_rfl
@[go_sem] theorem byt_119 : (Go.Proofs.Try.prog).bytesOf 119 = 8 := by kernel_rfl
@[go_sem] theorem lay_120 : lay Go.Proofs.Try.prog 120 = some (true, 8) := by kernel_rfl
@[go_sem] theorem und_120 : (Go.Proofs.Try.prog).underlying 120 = some (.array 8 3) := by kernel_rfl
@[go_sem] theorem idx_120 : idx Go.Proofs.Try.prog 120 = some (some 8, 3, false, 1) := by kernel_rfl
@[go_sem] theorem plc_120 : placesOf Go.Proofs.Try.prog 120 = some (fun i => some (i * 1, 1)) := by kernel_rfl
@[go_sem] theorem zer_120 : zeros Go.Proofs.Try.prog 120 = some [.val (.int .i64 0), .val (.int .i64 0), .val (.int .i64 0), .val (.int .i64 0), .val (.int .i64 0), .val (.int .i64 0), .val (.int .i64 0), .val (.int .i64 0)] := by kernel_rfl
@[go_sem] theorem byt_120 : (Go.Proofs.Try.prog).bytesOf 120 = 64 := by kernel_rfl
@[go_sem] theorem lay_121 : lay Go.Proofs.Try.prog 121 = some (false, 1) := by kernel_rfl
@[go_sem] theorem und_121 : (Go.Proofs.Try.prog).underlying 121 = some (.map 115 4) := by kernel_rfl
@[go_sem] theorem zer_121 : zeros Go.Proofs.Try.prog 121 = some [.val (.map none)] := by kernel_rfl
@[go_sem] theorem mty_121 : mapTy Go.Proofs.Try.prog 121 = some (115, 4) := by kernel_rfl
theorem zrf_4 : zeroF Go.Proofs.Try.prog 4 = some (.val (.bool false)) := by kernel_rfl
theorem key_115 : Maps.Keyed Go.Proofs.Try.prog 115 := Maps.Keyed.of_law (deep_law_laid (by kernel_rfl) (m := 3) (by omega) (of_decide_eq_true (by kernel_rfl)) (by kernel_rfl) (by kernel_rfl))
@[go_sem] theorem byt_121 : (Go.Proofs.Try.prog).bytesOf 121 = 8 := by kernel_rfl
@[go_sem] theorem lay_122 : lay Go.Proofs.Try.prog 122 = some (true, 12) := by kernel_rfl
@[go_sem] theorem fld_122_0 : fld Go.Proofs.Try.prog 122 0 = some (0, true, 3) := by kernel_rfl
@[go_sem] theorem fld_122_1 : fld Go.Proofs.Try.prog 122 1 = some (3, true, 8) := by kernel_rfl
@[go_sem] theorem fld_122_2 : fld Go.Proofs.Try.prog 122 2 = some (11, false, 1) := by kernel_rfl
@[go_sem] theorem plc_122 : placesOf Go.Proofs.Try.prog 122 = some (#[(0, 3), (3, 8), (11, 1)][·]?) := by kernel_rfl
@[go_sem] theorem zer_122 : zeros Go.Proofs.Try.prog 122 = some [.val (.int .i64 0), .val (.slice none 0 0), .val (.slice none 0 0), .val (.int .i64 0), .val (.int .i64 0), .val (.int .i64 0), .val (.int .i64 0), .val (.int .i64 0), .val (.int .i64 0), .val (.int .i64 0), .val (.int .i64 0), .val (.map none)] := by kernel_rfl
@[go_sem] theorem byt_122 : (Go.Proofs.Try.prog).bytesOf 122 = 128 := by kernel_rfl
@[go_sem] theorem lay_123 : lay Go.Proofs.Try.prog 123 = some (true, 12) := by kernel_rfl
@[go_sem] theorem fld_123_0 : fld Go.Proofs.Try.prog 123 0 = some (0, true, 3) := by kernel_rfl
@[go_sem] theorem fld_123_1 : fld Go.Proofs.Try.prog 123 1 = some (3, true, 8) := by kernel_rfl
@[go_sem] theorem fld_123_2 : fld Go.Proofs.Try.prog 123 2 = some (11, false, 1) := by kernel_rfl
@[go_sem] theorem plc_123 : placesOf Go.Proofs.Try.prog 123 = some (#[(0, 3), (3, 8), (11, 1)][·]?) := by kernel_rfl
@[go_sem] theorem zer_123 : zeros Go.Proofs.Try.prog 123 = some [.val (.int .i64 0), .val (.slice none 0 0), .val (.slice none 0 0), .val (.int .i64 0), .val (.int .i64 0), .val (.int .i64 0), .val (.int .i64 0), .val (.int .i64 0), .val (.int .i64 0), .val (.int .i64 0), .val (.int .i64 0), .val (.map none)] := by kernel_rfl
@[go_sem] theorem byt_123 : (Go.Proofs.Try.prog).bytesOf 123 = 128 := by kernel_rfl
@[go_sem] theorem lay_124 : lay Go.Proofs.Try.prog 124 = some (false, 1) := by kernel_rfl
@[go_sem] theorem zer_124 : zeros Go.Proofs.Try.prog 124 = some [.val .nilFunc] := by kernel_rfl
@[go_sem] theorem byt_124 : (Go.Proofs.Try.prog).bytesOf 124 = 8 := by kernel_rfl
@[go_sem] theorem lay_125 : lay Go.Proofs.Try.prog 125 = some (true, 8) := by kernel_rfl
@[go_sem] theorem und_125 : (Go.Proofs.Try.prog).underlying 125 = some (.array 8 3) := by kernel_rfl
@[go_sem] theorem idx_125 : idx Go.Proofs.Try.prog 125 = some (some 8, 3, false, 1) := by kernel_rfl
@[go_sem] theorem plc_125 : placesOf Go.Proofs.Try.prog 125 = some (fun i => some (i * 1, 1)) := by kernel_rfl
@[go_sem] theorem zer_125 : zeros Go.Proofs.Try.prog 125 = some [.val (.int .i64 0), .val (.int .i64 0), .val (.int .i64 0), .val (.int .i64 0), .val (.int .i64 0), .val (.int .i64 0), .val (.int .i64 0), .val (.int .i64 0)] := by kernel_rfl
@[go_sem] theorem byt_125 : (Go.Proofs.Try.prog).bytesOf 125 = 64 := by kernel_rfl
@[go_sem] theorem lay_126 : lay Go.Proofs.Try.prog 126 = some (false, 1) := by kernel_rfl
@[go_sem] theorem zer_126 : zeros Go.Proofs.Try.prog 126 = some [.val .nilFunc] := by kernel_rfl
@[go_sem] theorem byt_126 : (Go.Proofs.Try.prog).bytesOf 126 = 8 := by kernel_rfl
@[go_sem] theorem lay_127 : lay Go.Proofs.Try.prog 127 = some (false, 1) := by kernel_rfl
@[go_sem] theorem zer_127 : zeros Go.Proofs.Try.prog 127 = some [.val .nilFunc] := by kernel_rfl
@[go_sem] theorem byt_127 : (Go.Proofs.Try.prog).bytesOf 127 = 8 := by kernel_rfl
@[go_sem] theorem lay_128 : lay Go.Proofs.Try.prog 128 = some (true, 4) := by kernel_rfl
@[go_sem] theorem fld_128_0 : fld Go.Proofs.Try.prog 128 0 = some (0, false, 1) := by kernel_rfl
@[go_sem] theorem fld_128_1 : fld Go.Proofs.Try.prog 128 1 = some (1, false, 1) := by kernel_rfl
@[go_sem] theorem fld_128_2 : fld Go.Proofs.Try.prog 128 2 = some (2, false, 1) := by kernel_rfl
@[go_sem] theorem fld_128_3 : fld Go.Proofs.Try.prog 128 3 = some (3, false, 1) := by kernel_rfl
@[go_sem] theorem plc_128 : placesOf Go.Proofs.Try.prog 128 = some (#[(0, 1), (1, 1), (2, 1), (3, 1)][·]?) := by kernel_rfl
@[go_sem] theorem zer_128 : zeros Go.Proofs.Try.prog 128 = some [.val (.pointer none), .val (.slice none 0 0), .val (.slice none 0 0), .val (.int .i64 0)] := by kernel_rfl
@[go_sem] theorem byt_128 : (Go.Proofs.Try.prog).bytesOf 128 = 64 := by kernel_rfl
@[go_sem] theorem lay_129 : lay Go.Proofs.Try.prog 129 = some (true, 4) := by kernel_rfl
@[go_sem] theorem fld_129_0 : fld Go.Proofs.Try.prog 129 0 = some (0, false, 1) := by kernel_rfl
@[go_sem] theorem fld_129_1 : fld Go.Proofs.Try.prog 129 1 = some (1, false, 1) := by kernel_rfl
@[go_sem] theorem fld_129_2 : fld Go.Proofs.Try.prog 129 2 = some (2, false, 1) := by kernel_rfl
@[go_sem] theorem fld_129_3 : fld Go.Proofs.Try.prog 129 3 = some (3, false, 1) := by kernel_rfl
@[go_sem] theorem plc_129 : placesOf Go.Proofs.Try.prog 129 = some (#[(0, 1), (1, 1), (2, 1), (3, 1)][·]?) := by kernel_rfl
@[go_sem] theorem zer_129 : zeros Go.Proofs.Try.prog 129 = some [.val (.pointer none), .val (.slice none 0 0), .val (.slice none 0 0), .val (.int .i64 0)] := by kernel_rfl
@[go_sem] theorem byt_129 : (Go.Proofs.Try.prog).bytesOf 129 = 64 := by kernel_rfl
@[go_sem] theorem lay_131 : lay Go.Proofs.Try.prog 131 = some (false, 1) := by kernel_rfl
@[go_sem] theorem zer_131 : zeros Go.Proofs.Try.prog 131 = some [.val .nilFunc] := by kernel_rfl
@[go_sem] theorem byt_131 : (Go.Proofs.Try.prog).bytesOf 131 = 8 := by kernel_rfl
@[go_sem] theorem lay_132 : lay Go.Proofs.Try.prog 132 = some (false, 1) := by kernel_rfl
@[go_sem] theorem zer_132 : zeros Go.Proofs.Try.prog 132 = some [.val .nilFunc] := by kernel_rfl
@[go_sem] theorem byt_132 : (Go.Proofs.Try.prog).bytesOf 132 = 8 := by kernel_rfl
@[go_sem] theorem lay_133 : lay Go.Proofs.Try.prog 133 = some (false, 1) := by kernel_rfl
@[go_sem] theorem zer_133 : zeros Go.Proofs.Try.prog 133 = some [.val .nilFunc] := by kernel_rfl
@[go_sem] theorem byt_133 : (Go.Proofs.Try.prog).bytesOf 133 = 8 := by kernel_rfl
@[go_sem] theorem lay_134 : lay Go.Proofs.Try.prog 134 = some (true, 8) := by kernel_rfl
@[go_sem] theorem und_134 : (Go.Proofs.Try.prog).underlying 134 = some (.array 8 4) := by kernel_rfl
@[go_sem] theorem idx_134 : idx Go.Proofs.Try.prog 134 = some (some 8, 4, false, 1) := by kernel_rfl
@[go_sem] theorem plc_134 : placesOf Go.Proofs.Try.prog 134 = some (fun i => some (i * 1, 1)) := by kernel_rfl
@[go_sem] theorem zer_134 : zeros Go.Proofs.Try.prog 134 = some [.val (.bool false), .val (.bool false), .val (.bool false), .val (.bool false), .val (.bool false), .val (.bool false), .val (.bool false), .val (.bool false)] := by kernel_rfl
@[go_sem] theorem byt_134 : (Go.Proofs.Try.prog).bytesOf 134 = 8 := by kernel_rfl
@[go_sem] theorem lay_135 : lay Go.Proofs.Try.prog 135 = some (true, 2) := by kernel_rfl
@[go_sem] theorem und_135 : (Go.Proofs.Try.prog).underlying 135 = some (.array 2 5) := by kernel_rfl
@[go_sem] theorem idx_135 : idx Go.Proofs.Try.prog 135 = some (some 2, 5, false, 1) := by kernel_rfl
@[go_sem] theorem plc_135 : placesOf Go.Proofs.Try.prog 135 = some (fun i => some (i * 1, 1)) := by kernel_rfl
@[go_sem] theorem zer_135 : zeros Go.Proofs.Try.prog 135 = some [.val (.int .u8 0), .val (.int .u8 0)] := by kernel_rfl
@[go_sem] theorem byt_135 : (Go.Proofs.Try.prog).bytesOf 135 = 2 := by kernel_rfl
@[go_sem] theorem lay_136 : lay Go.Proofs.Try.prog 136 = some (false, 1) := by kernel_rfl
@[go_sem] theorem zer_136 : zeros Go.Proofs.Try.prog 136 = some [.val .nilFunc] := by kernel_rfl
@[go_sem] theorem byt_136 : (Go.Proofs.Try.prog).bytesOf 136 = 8 := by kernel_rfl
@[go_sem] theorem lay_137 : lay Go.Proofs.Try.prog 137 = some (false, 1) := by kernel_rfl
@[go_sem] theorem zer_137 : zeros Go.Proofs.Try.prog 137 = some [.val .nilFunc] := by kernel_rfl
@[go_sem] theorem byt_137 : (Go.Proofs.Try.prog).bytesOf 137 = 8 := by kernel_rfl
@[go_sem] theorem lay_138 : lay Go.Proofs.Try.prog 138 = some (false, 1) := by kernel_rfl
@[go_sem] theorem und_138 : (Go.Proofs.Try.prog).underlying 138 = some (.slice 141) := by kernel_rfl
@[go_sem] theorem idx_138 : idx Go.Proofs.Try.prog 138 = some (none, 141, true, 2) := by kernel_rfl
@[go_sem] theorem zer_138 : zeros Go.Proofs.Try.prog 138 = some [.val (.slice none 0 0)] := by kernel_rfl
@[go_sem] theorem byt_138 : (Go.Proofs.Try.prog).bytesOf 138 = 24 := by kernel_rfl
@[go_sem] theorem lay_139 : lay Go.Proofs.Try.prog 139 = some (false, 1) := by kernel_rfl
@[go_sem] theorem zer_139 : zeros Go.Proofs.Try.prog 139 = some [.val .nilFunc] := by kernel_rfl
@[go_sem] theorem byt_139 : (Go.Proofs.Try.prog).bytesOf 139 = 8 := by kernel_rfl
@[go_sem] theorem lay_140 : lay Go.Proofs.Try.prog 140 = some (true, 2) := by kernel_rfl
@[go_sem] theorem fld_140_0 : fld Go.Proofs.Try.prog 140 0 = some (0, false, 1) := by kernel_rfl
@[go_sem] theorem fld_140_1 : fld Go.Proofs.Try.prog 140 1 = some (1, false, 1) := by kernel_rfl
@[go_sem] theorem plc_140 : placesOf Go.Proofs.Try.prog 140 = some (#[(0, 1), (1, 1)][·]?) := by kernel_rfl
@[go_sem] theorem flat_140 : flatInts Go.Proofs.Try.prog 140 = some 2 := by kernel_rfl
@[go_sem] theorem zer_140 : zeros Go.Proofs.Try.prog 140 = some [.val (.int .i64 0), .val (.int .i64 0)] := by kernel_rfl
@[go_sem] theorem byt_140 : (Go.Proofs.Try.prog).bytesOf 140 = 16 := by kernel_rfl
@[go_sem] theorem lay_141 : lay Go.Proofs.Try.prog 141 = some (true, 2) := by kernel_rfl
@[go_sem] theorem fld_141_0 : fld Go.Proofs.Try.prog 141 0 = some (0, false, 1) := by kernel_rfl
@[go_sem] theorem fld_141_1 : fld Go.Proofs.Try.prog 141 1 = some (1, false, 1) := by kernel_rfl
@[go_sem] theorem plc_141 : placesOf Go.Proofs.Try.prog 141 = some (#[(0, 1), (1, 1)][·]?) := by kernel_rfl
@[go_sem] theorem flat_141 : flatInts Go.Proofs.Try.prog 141 = some 2 := by kernel_rfl
@[go_sem] theorem zer_141 : zeros Go.Proofs.Try.prog 141 = some [.val (.int .i64 0), .val (.int .i64 0)] := by kernel_rfl
@[go_sem] theorem byt_141 : (Go.Proofs.Try.prog).bytesOf 141 = 16 := by kernel_rfl
@[go_sem] theorem lay_142 : lay Go.Proofs.Try.prog 142 = some (false, 1) := by kernel_rfl
@[go_sem] theorem zer_142 : zeros Go.Proofs.Try.prog 142 = some [.val .nilFunc] := by kernel_rfl
@[go_sem] theorem byt_142 : (Go.Proofs.Try.prog).bytesOf 142 = 8 := by kernel_rfl
@[go_sem] theorem lay_144 : lay Go.Proofs.Try.prog 144 = some (false, 1) := by kernel_rfl
@[go_sem] theorem zer_144 : zeros Go.Proofs.Try.prog 144 = some [.val .nilFunc] := by kernel_rfl
@[go_sem] theorem byt_144 : (Go.Proofs.Try.prog).bytesOf 144 = 8 := by kernel_rfl
@[go_sem] theorem lay_145 : lay Go.Proofs.Try.prog 145 = some (false, 1) := by kernel_rfl
@[go_sem] theorem zer_145 : zeros Go.Proofs.Try.prog 145 = some [.val .nilFunc] := by kernel_rfl
@[go_sem] theorem byt_145 : (Go.Proofs.Try.prog).bytesOf 145 = 8 := by kernel_rfl
@[go_sem] theorem lay_146 : lay Go.Proofs.Try.prog 146 = some (false, 1) := by kernel_rfl
@[go_sem] theorem zer_146 : zeros Go.Proofs.Try.prog 146 = some [.val .nilFunc] := by kernel_rfl
@[go_sem] theorem byt_146 : (Go.Proofs.Try.prog).bytesOf 146 = 8 := by kernel_rfl
@[go_sem] theorem lay_147 : lay Go.Proofs.Try.prog 147 = some (false, 1) := by kernel_rfl
@[go_sem] theorem zer_147 : zeros Go.Proofs.Try.prog 147 = some [.val .nilFunc] := by kernel_rfl
@[go_sem] theorem byt_147 : (Go.Proofs.Try.prog).bytesOf 147 = 8 := by kernel_rfl
@[go_sem] theorem lay_148 : lay Go.Proofs.Try.prog 148 = some (false, 1) := by kernel_rfl
@[go_sem] theorem zer_148 : zeros Go.Proofs.Try.prog 148 = some [.val .nilFunc] := by kernel_rfl
@[go_sem] theorem byt_148 : (Go.Proofs.Try.prog).bytesOf 148 = 8 := by kernel_rfl
@[go_sem] theorem lay_149 : lay Go.Proofs.Try.prog 149 = some (false, 1) := by kernel_rfl
@[go_sem] theorem zer_149 : zeros Go.Proofs.Try.prog 149 = some [.val .nilFunc] := by kernel_rfl
@[go_sem] theorem byt_149 : (Go.Proofs.Try.prog).bytesOf 149 = 8 := by kernel_rfl
@[go_sem] theorem lay_150 : lay Go.Proofs.Try.prog 150 = some (false, 1) := by kernel_rfl
@[go_sem] theorem und_150 : (Go.Proofs.Try.prog).underlying 150 = some (.map 3 3) := by kernel_rfl
@[go_sem] theorem zer_150 : zeros Go.Proofs.Try.prog 150 = some [.val (.map none)] := by kernel_rfl
@[go_sem] theorem mty_150 : mapTy Go.Proofs.Try.prog 150 = some (3, 3) := by kernel_rfl
theorem zrf_3 : zeroF Go.Proofs.Try.prog 3 = some (.val (.int .i64 0)) := by kernel_rfl
theorem key_3 : Maps.Keyed Go.Proofs.Try.prog 3 := Maps.int_keyed (q := .i64) (by kernel_rfl)
@[go_sem] theorem byt_150 : (Go.Proofs.Try.prog).bytesOf 150 = 8 := by kernel_rfl
@[go_sem] theorem lay_151 : lay Go.Proofs.Try.prog 151 = some (false, 1) := by kernel_rfl
@[go_sem] theorem und_151 : (Go.Proofs.Try.prog).underlying 151 = some (.map 3 4) := by kernel_rfl
@[go_sem] theorem zer_151 : zeros Go.Proofs.Try.prog 151 = some [.val (.map none)] := by kernel_rfl
@[go_sem] theorem mty_151 : mapTy Go.Proofs.Try.prog 151 = some (3, 4) := by kernel_rfl
@[go_sem] theorem byt_151 : (Go.Proofs.Try.prog).bytesOf 151 = 8 := by kernel_rfl
@[go_sem] theorem lay_152 : lay Go.Proofs.Try.prog 152 = some (false, 1) := by kernel_rfl
@[go_sem] theorem zer_152 : zeros Go.Proofs.Try.prog 152 = some [.val .nilFunc] := by kernel_rfl
@[go_sem] theorem byt_152 : (Go.Proofs.Try.prog).bytesOf 152 = 8 := by kernel_rfl
@[go_sem] theorem lay_153 : lay Go.Proofs.Try.prog 153 = some (false, 1) := by kernel_rfl
@[go_sem] theorem zer_153 : zeros Go.Proofs.Try.prog 153 = some [.val .nilFunc] := by kernel_rfl
@[go_sem] theorem byt_153 : (Go.Proofs.Try.prog).bytesOf 153 = 8 := by kernel_rfl
@[go_sem] theorem lay_154 : lay Go.Proofs.Try.prog 154 = some (false, 1) := by kernel_rfl
@[go_sem] theorem zer_154 : zeros Go.Proofs.Try.prog 154 = some [.val .nilFunc] := by kernel_rfl
@[go_sem] theorem byt_154 : (Go.Proofs.Try.prog).bytesOf 154 = 8 := by kernel_rfl
@[go_sem] theorem lay_155 : lay Go.Proofs.Try.prog 155 = some (false, 1) := by kernel_rfl
@[go_sem] theorem zer_155 : zeros Go.Proofs.Try.prog 155 = some [.val .nilFunc] := by kernel_rfl
@[go_sem] theorem byt_155 : (Go.Proofs.Try.prog).bytesOf 155 = 8 := by kernel_rfl
@[go_sem] theorem lay_156 : lay Go.Proofs.Try.prog 156 = some (false, 1) := by kernel_rfl
@[go_sem] theorem zer_156 : zeros Go.Proofs.Try.prog 156 = some [.val .nilFunc] := by kernel_rfl
@[go_sem] theorem byt_156 : (Go.Proofs.Try.prog).bytesOf 156 = 8 := by kernel_rfl
@[go_sem] theorem lay_157 : lay Go.Proofs.Try.prog 157 = some (false, 1) := by kernel_rfl
@[go_sem] theorem zer_157 : zeros Go.Proofs.Try.prog 157 = some [.val .nilFunc] := by kernel_rfl
@[go_sem] theorem byt_157 : (Go.Proofs.Try.prog).bytesOf 157 = 8 := by kernel_rfl
@[go_sem] theorem lay_158 : lay Go.Proofs.Try.prog 158 = some (false, 1) := by kernel_rfl
@[go_sem] theorem zer_158 : zeros Go.Proofs.Try.prog 158 = some [.val .nilFunc] := by kernel_rfl
@[go_sem] theorem byt_158 : (Go.Proofs.Try.prog).bytesOf 158 = 8 := by kernel_rfl
@[go_sem] theorem lay_159 : lay Go.Proofs.Try.prog 159 = some (false, 1) := by kernel_rfl
@[go_sem] theorem zer_159 : zeros Go.Proofs.Try.prog 159 = some [.val .nilFunc] := by kernel_rfl
@[go_sem] theorem byt_159 : (Go.Proofs.Try.prog).bytesOf 159 = 8 := by kernel_rfl
@[go_sem] theorem lay_160 : lay Go.Proofs.Try.prog 160 = some (false, 1) := by kernel_rfl
@[go_sem] theorem zer_160 : zeros Go.Proofs.Try.prog 160 = some [.val .nilFunc] := by kernel_rfl
@[go_sem] theorem byt_160 : (Go.Proofs.Try.prog).bytesOf 160 = 8 := by kernel_rfl
@[go_sem] theorem lay_161 : lay Go.Proofs.Try.prog 161 = some (false, 1) := by kernel_rfl
@[go_sem] theorem zer_161 : zeros Go.Proofs.Try.prog 161 = some [.val .nilFunc] := by kernel_rfl
@[go_sem] theorem byt_161 : (Go.Proofs.Try.prog).bytesOf 161 = 8 := by kernel_rfl
@[go_sem] theorem lay_162 : lay Go.Proofs.Try.prog 162 = some (false, 1) := by kernel_rfl
@[go_sem] theorem zer_162 : zeros Go.Proofs.Try.prog 162 = some [.val .nilFunc] := by kernel_rfl
@[go_sem] theorem byt_162 : (Go.Proofs.Try.prog).bytesOf 162 = 8 := by kernel_rfl
@[go_sem] theorem lay_163 : lay Go.Proofs.Try.prog 163 = some (false, 1) := by kernel_rfl
@[go_sem] theorem zer_163 : zeros Go.Proofs.Try.prog 163 = some [.val .nilFunc] := by kernel_rfl
@[go_sem] theorem byt_163 : (Go.Proofs.Try.prog).bytesOf 163 = 8 := by kernel_rfl
@[go_sem] theorem lay_164 : lay Go.Proofs.Try.prog 164 = some (false, 1) := by kernel_rfl
@[go_sem] theorem zer_164 : zeros Go.Proofs.Try.prog 164 = some [.val .nilFunc] := by kernel_rfl
@[go_sem] theorem byt_164 : (Go.Proofs.Try.prog).bytesOf 164 = 8 := by kernel_rfl
@[go_sem] theorem lay_165 : lay Go.Proofs.Try.prog 165 = some (false, 1) := by kernel_rfl
@[go_sem] theorem zer_165 : zeros Go.Proofs.Try.prog 165 = some [.val .nilFunc] := by kernel_rfl
@[go_sem] theorem byt_165 : (Go.Proofs.Try.prog).bytesOf 165 = 8 := by kernel_rfl
@[go_sem] theorem lay_166 : lay Go.Proofs.Try.prog 166 = some (false, 1) := by kernel_rfl
@[go_sem] theorem zer_166 : zeros Go.Proofs.Try.prog 166 = some [.val .nilFunc] := by kernel_rfl
@[go_sem] theorem byt_166 : (Go.Proofs.Try.prog).bytesOf 166 = 8 := by kernel_rfl
@[go_sem] theorem lay_167 : lay Go.Proofs.Try.prog 167 = some (false, 1) := by kernel_rfl
@[go_sem] theorem zer_167 : zeros Go.Proofs.Try.prog 167 = some [.val .nilFunc] := by kernel_rfl
@[go_sem] theorem byt_167 : (Go.Proofs.Try.prog).bytesOf 167 = 8 := by kernel_rfl
@[go_sem] theorem lay_168 : lay Go.Proofs.Try.prog 168 = some (false, 1) := by kernel_rfl
@[go_sem] theorem zer_168 : zeros Go.Proofs.Try.prog 168 = some [.val .nilFunc] := by kernel_rfl
@[go_sem] theorem byt_168 : (Go.Proofs.Try.prog).bytesOf 168 = 8 := by kernel_rfl
@[go_sem] theorem lay_169 : lay Go.Proofs.Try.prog 169 = some (false, 1) := by kernel_rfl
@[go_sem] theorem zer_169 : zeros Go.Proofs.Try.prog 169 = some [.val .nilFunc] := by kernel_rfl
@[go_sem] theorem byt_169 : (Go.Proofs.Try.prog).bytesOf 169 = 8 := by kernel_rfl
@[go_sem] theorem lay_170 : lay Go.Proofs.Try.prog 170 = some (false, 1) := by kernel_rfl
@[go_sem] theorem zer_170 : zeros Go.Proofs.Try.prog 170 = some [.val .nilFunc] := by kernel_rfl
@[go_sem] theorem byt_170 : (Go.Proofs.Try.prog).bytesOf 170 = 8 := by kernel_rfl
@[go_sem] theorem lay_171 : lay Go.Proofs.Try.prog 171 = some (false, 1) := by kernel_rfl
@[go_sem] theorem zer_171 : zeros Go.Proofs.Try.prog 171 = some [.val .nilFunc] := by kernel_rfl
@[go_sem] theorem byt_171 : (Go.Proofs.Try.prog).bytesOf 171 = 8 := by kernel_rfl
@[go_sem] theorem lay_172 : lay Go.Proofs.Try.prog 172 = some (false, 1) := by kernel_rfl
@[go_sem] theorem zer_172 : zeros Go.Proofs.Try.prog 172 = some [.val .nilFunc] := by kernel_rfl
@[go_sem] theorem byt_172 : (Go.Proofs.Try.prog).bytesOf 172 = 8 := by kernel_rfl
@[go_sem] theorem lay_173 : lay Go.Proofs.Try.prog 173 = some (false, 1) := by kernel_rfl
@[go_sem] theorem zer_173 : zeros Go.Proofs.Try.prog 173 = some [.val .nilFunc] := by kernel_rfl
@[go_sem] theorem byt_173 : (Go.Proofs.Try.prog).bytesOf 173 = 8 := by kernel_rfl
@[go_sem] theorem lay_179 : lay Go.Proofs.Try.prog 179 = some (false, 1) := by kernel_rfl
@[go_sem] theorem und_179 : (Go.Proofs.Try.prog).underlying 179 = some (.int .u32) := by kernel_rfl
@[go_sem] theorem zer_179 : zeros Go.Proofs.Try.prog 179 = some [.val (.int .u32 0)] := by kernel_rfl
@[go_sem] theorem byt_179 : (Go.Proofs.Try.prog).bytesOf 179 = 4 := by kernel_rfl
@[go_sem] theorem lay_182 : lay Go.Proofs.Try.prog 182 = some (false, 1) := by kernel_rfl
@[go_sem] theorem zer_182 : zeros Go.Proofs.Try.prog 182 = some [.val .nilFunc] := by kernel_rfl
@[go_sem] theorem byt_182 : (Go.Proofs.Try.prog).bytesOf 182 = 8 := by kernel_rfl
@[go_sem] theorem lay_183 : lay Go.Proofs.Try.prog 183 = some (false, 1) := by kernel_rfl
@[go_sem] theorem und_183 : (Go.Proofs.Try.prog).underlying 183 = some (.pointer 5) := by kernel_rfl
@[go_sem] theorem zer_183 : zeros Go.Proofs.Try.prog 183 = some [.val (.pointer none)] := by kernel_rfl
@[go_sem] theorem byt_183 : (Go.Proofs.Try.prog).bytesOf 183 = 8 := by kernel_rfl

noncomputable abbrev Q : Program := Go.Proofs.Try.prog
def sop (nb d : Nat) (r : Op) (t : Nat) : SO := ⟨some d, r, t, none, some (nb + d)⟩
theorem mix : Q.follows .mixedOrders = true := by kernel_rfl
end S07

