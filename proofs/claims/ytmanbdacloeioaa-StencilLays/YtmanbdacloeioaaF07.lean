/- A part of the proof: F07. -/
import Derived.Test.YtmanbdacloeioaaProg
import Derived.Test.YtmanbdacloeioaaAbsY
import Derived.DeepKeys4
set_option linter.unusedVariables false
set_option linter.unusedSimpArgs false
set_option maxRecDepth 20000
namespace S07
open Go Abs
noncomputable abbrev Q : Program := Go.Proofs.Try.prog
@[go_sem] theorem lay_3 : lay Q 3 = some (false, 1) := by kernel_rfl
@[go_sem] theorem und_3 : Q.underlying 3 = some (.int .i64) := by kernel_rfl
@[go_sem] theorem zer_3 : zeros Q 3 = some [.val (.int .i64 0)] := by kernel_rfl
@[go_sem] theorem byt_3 : Q.bytesOf 3 = 8 := by kernel_rfl
@[go_sem] theorem lay_4 : lay Q 4 = some (false, 1) := by kernel_rfl
@[go_sem] theorem und_4 : Q.underlying 4 = some (.bool) := by kernel_rfl
@[go_sem] theorem zer_4 : zeros Q 4 = some [.val (.bool false)] := by kernel_rfl
@[go_sem] theorem bty_4 : boolTy Q 4 = true := by kernel_rfl
@[go_sem] theorem byt_4 : Q.bytesOf 4 = 1 := by kernel_rfl
@[go_sem] theorem lay_5 : lay Q 5 = some (false, 1) := by kernel_rfl
@[go_sem] theorem und_5 : Q.underlying 5 = some (.int .u8) := by kernel_rfl
@[go_sem] theorem zer_5 : zeros Q 5 = some [.val (.int .u8 0)] := by kernel_rfl
@[go_sem] theorem byt_5 : Q.bytesOf 5 = 1 := by kernel_rfl
@[go_sem] theorem lay_22 : lay Q 22 = some (false, 1) := by kernel_rfl
@[go_sem] theorem und_22 : Q.underlying 22 = some (.slice 115) := by kernel_rfl
@[go_sem] theorem idx_22 : idx Q 22 = some (none, 115, true, 2) := by kernel_rfl
@[go_sem] theorem zer_22 : zeros Q 22 = some [.val (.slice none 0 0)] := by kernel_rfl
@[go_sem] theorem byt_22 : Q.bytesOf 22 = 24 := by kernel_rfl
@[go_sem] theorem lay_24 : lay Q 24 = some (true, 3) := by kernel_rfl
@[go_sem] theorem fld_24_0 : fld Q 24 0 = some (0, false, 1) := by kernel_rfl
@[go_sem] theorem fld_24_1 : fld Q 24 1 = some (1, false, 1) := by kernel_rfl
@[go_sem] theorem fld_24_2 : fld Q 24 2 = some (2, false, 1) := by kernel_rfl
@[go_sem] theorem plc_24 : placesOf Q 24 = some (#[(0, 1), (1, 1), (2, 1)][·]?) := by kernel_rfl
@[go_sem] theorem zer_24 : zeros Q 24 = some [.val (.int .i64 0), .val (.slice none 0 0), .val (.slice none 0 0)] := by kernel_rfl
@[go_sem] theorem byt_24 : Q.bytesOf 24 = 56 := by kernel_rfl
@[go_sem] theorem lay_25 : lay Q 25 = some (false, 1) := by kernel_rfl
@[go_sem] theorem und_25 : Q.underlying 25 = some (.slice 26) := by kernel_rfl
@[go_sem] theorem idx_25 : idx Q 25 = some (none, 26, false, 1) := by kernel_rfl
@[go_sem] theorem zer_25 : zeros Q 25 = some [.val (.slice none 0 0)] := by kernel_rfl
@[go_sem] theorem byt_25 : Q.bytesOf 25 = 24 := by kernel_rfl
@[go_sem] theorem lay_26 : lay Q 26 = some (false, 1) := by kernel_rfl
@[go_sem] theorem und_26 : Q.underlying 26 = some (.slice 3) := by kernel_rfl
@[go_sem] theorem idx_26 : idx Q 26 = some (none, 3, false, 1) := by kernel_rfl
@[go_sem] theorem zer_26 : zeros Q 26 = some [.val (.slice none 0 0)] := by kernel_rfl
@[go_sem] theorem byt_26 : Q.bytesOf 26 = 24 := by kernel_rfl
@[go_sem] theorem lay_28 : lay Q 28 = some (true, 2) := by kernel_rfl
@[go_sem] theorem fld_28_0 : fld Q 28 0 = some (0, false, 1) := by kernel_rfl
@[go_sem] theorem fld_28_1 : fld Q 28 1 = some (1, false, 1) := by kernel_rfl
@[go_sem] theorem plc_28 : placesOf Q 28 = some (#[(0, 1), (1, 1)][·]?) := by kernel_rfl
@[go_sem] theorem zer_28 : zeros Q 28 = some [.val (.slice none 0 0), .val (.int .i64 0)] := by kernel_rfl
@[go_sem] theorem byt_28 : Q.bytesOf 28 = 32 := by kernel_rfl
@[go_sem] theorem lay_34 : lay Q 34 = some (false, 1) := by kernel_rfl
@[go_sem] theorem und_34 : Q.underlying 34 = some (.int .i64) := by kernel_rfl
@[go_sem] theorem zer_34 : zeros Q 34 = some [.val (.int .i64 0)] := by kernel_rfl
@[go_sem] theorem byt_34 : Q.bytesOf 34 = 8 := by kernel_rfl
@[go_sem] theorem lay_59 : lay Q 59 = some (true, 2) := by kernel_rfl
@[go_sem] theorem fld_59_0 : fld Q 59 0 = some (0, false, 1) := by kernel_rfl
@[go_sem] theorem fld_59_1 : fld Q 59 1 = some (1, false, 1) := by kernel_rfl
@[go_sem] theorem plc_59 : placesOf Q 59 = some (#[(0, 1), (1, 1)][·]?) := by kernel_rfl
@[go_sem] theorem zer_59 : zeros Q 59 = some [.val (.slice none 0 0), .val (.int .i64 0)] := by kernel_rfl
@[go_sem] theorem byt_59 : Q.bytesOf 59 = 32 := by kernel_rfl
@[go_sem] theorem lay_69 : lay Q 69 = some (false, 1) := by kernel_rfl
@[go_sem] theorem und_69 : Q.underlying 69 = some (.slice 135) := by kernel_rfl
@[go_sem] theorem idx_69 : idx Q 69 = some (none, 135, true, 2) := by kernel_rfl
@[go_sem] theorem zer_69 : zeros Q 69 = some [.val (.slice none 0 0)] := by kernel_rfl
@[go_sem] theorem byt_69 : Q.bytesOf 69 = 24 := by kernel_rfl
@[go_sem] theorem lay_71 : lay Q 71 = some (true, 3) := by kernel_rfl
@[go_sem] theorem fld_71_0 : fld Q 71 0 = some (0, false, 1) := by kernel_rfl
@[go_sem] theorem fld_71_1 : fld Q 71 1 = some (1, false, 1) := by kernel_rfl
@[go_sem] theorem fld_71_2 : fld Q 71 2 = some (2, false, 1) := by kernel_rfl
@[go_sem] theorem plc_71 : placesOf Q 71 = some (#[(0, 1), (1, 1), (2, 1)][·]?) := by kernel_rfl
@[go_sem] theorem zer_71 : zeros Q 71 = some [.val (.int .u8 0), .val (.slice none 0 0), .val (.slice none 0 0)] := by kernel_rfl
@[go_sem] theorem byt_71 : Q.bytesOf 71 = 56 := by kernel_rfl
@[go_sem] theorem lay_72 : lay Q 72 = some (false, 1) := by kernel_rfl
@[go_sem] theorem und_72 : Q.underlying 72 = some (.slice 5) := by kernel_rfl
@[go_sem] theorem idx_72 : idx Q 72 = some (none, 5, false, 1) := by kernel_rfl
@[go_sem] theorem zer_72 : zeros Q 72 = some [.val (.slice none 0 0)] := by kernel_rfl
@[go_sem] theorem byt_72 : Q.bytesOf 72 = 24 := by kernel_rfl
@[go_sem] theorem lay_73 : lay Q 73 = some (true, 6) := by kernel_rfl
@[go_sem] theorem und_73 : Q.underlying 73 = some (.array 6 5) := by kernel_rfl
@[go_sem] theorem idx_73 : idx Q 73 = some (some 6, 5, false, 1) := by kernel_rfl
@[go_sem] theorem plc_73 : placesOf Q 73 = some (fun i => some (i * 1, 1)) := by kernel_rfl
@[go_sem] theorem zer_73 : zeros Q 73 = some [.val (.int .u8 0), .val (.int .u8 0), .val (.int .u8 0), .val (.int .u8 0), .val (.int .u8 0), .val (.int .u8 0)] := by kernel_rfl
@[go_sem] theorem byt_73 : Q.bytesOf 73 = 6 := by kernel_rfl
@[go_sem] theorem lay_76 : lay Q 76 = some (false, 1) := by kernel_rfl
@[go_sem] theorem und_76 : Q.underlying 76 = some (.int .i64) := by kernel_rfl
@[go_sem] theorem zer_76 : zeros Q 76 = some [.val (.int .i64 0)] := by kernel_rfl
@[go_sem] theorem byt_76 : Q.bytesOf 76 = 8 := by kernel_rfl
@[go_sem] theorem lay_79 : lay Q 79 = some (false, 1) := by kernel_rfl
@[go_sem] theorem und_79 : Q.underlying 79 = some (.slice 82) := by kernel_rfl
@[go_sem] theorem idx_79 : idx Q 79 = some (none, 82, false, 1) := by kernel_rfl
@[go_sem] theorem zer_79 : zeros Q 79 = some [.val (.slice none 0 0)] := by kernel_rfl
@[go_sem] theorem byt_79 : Q.bytesOf 79 = 24 := by kernel_rfl
@[go_sem] theorem lay_82 : lay Q 82 = some (false, 1) := by kernel_rfl
@[go_sem] theorem und_82 : Q.underlying 82 = some (.slice 76) := by kernel_rfl
@[go_sem] theorem idx_82 : idx Q 82 = some (none, 76, false, 1) := by kernel_rfl
@[go_sem] theorem zer_82 : zeros Q 82 = some [.val (.slice none 0 0)] := by kernel_rfl
@[go_sem] theorem byt_82 : Q.bytesOf 82 = 24 := by kernel_rfl
@[go_sem] theorem lay_88 : lay Q 88 = some (true, 4) := by kernel_rfl
@[go_sem] theorem und_88 : Q.underlying 88 = some (.array 4 3) := by kernel_rfl
@[go_sem] theorem idx_88 : idx Q 88 = some (some 4, 3, false, 1) := by kernel_rfl
@[go_sem] theorem plc_88 : placesOf Q 88 = some (fun i => some (i * 1, 1)) := by kernel_rfl
@[go_sem] theorem zer_88 : zeros Q 88 = some [.val (.int .i64 0), .val (.int .i64 0), .val (.int .i64 0), .val (.int .i64 0)] := by kernel_rfl
@[go_sem] theorem byt_88 : Q.bytesOf 88 = 32 := by kernel_rfl
@[go_sem] theorem lay_90 : lay Q 90 = some (true, 3) := by kernel_rfl
@[go_sem] theorem und_90 : Q.underlying 90 = some (.array 3 5) := by kernel_rfl
@[go_sem] theorem idx_90 : idx Q 90 = some (some 3, 5, false, 1) := by kernel_rfl
@[go_sem] theorem plc_90 : placesOf Q 90 = some (fun i => some (i * 1, 1)) := by kernel_rfl
@[go_sem] theorem zer_90 : zeros Q 90 = some [.val (.int .u8 0), .val (.int .u8 0), .val (.int .u8 0)] := by kernel_rfl
@[go_sem] theorem byt_90 : Q.bytesOf 90 = 3 := by kernel_rfl
@[go_sem] theorem lay_91 : lay Q 91 = some (true, 15) := by kernel_rfl
@[go_sem] theorem und_91 : Q.underlying 91 = some (.array 5 90) := by kernel_rfl
@[go_sem] theorem idx_91 : idx Q 91 = some (some 5, 90, true, 3) := by kernel_rfl
@[go_sem] theorem plc_91 : placesOf Q 91 = some (fun i => some (i * 3, 3)) := by kernel_rfl
@[go_sem] theorem zer_91 : zeros Q 91 = some [.val (.int .u8 0), .val (.int .u8 0), .val (.int .u8 0), .val (.int .u8 0), .val (.int .u8 0), .val (.int .u8 0), .val (.int .u8 0), .val (.int .u8 0), .val (.int .u8 0), .val (.int .u8 0), .val (.int .u8 0), .val (.int .u8 0), .val (.int .u8 0), .val (.int .u8 0), .val (.int .u8 0)] := by kernel_rfl
@[go_sem] theorem byt_91 : Q.bytesOf 91 = 15 := by kernel_rfl
@[go_sem] theorem lay_92 : lay Q 92 = some (true, 4) := by kernel_rfl
@[go_sem] theorem und_92 : Q.underlying 92 = some (.array 4 5) := by kernel_rfl
@[go_sem] theorem idx_92 : idx Q 92 = some (some 4, 5, false, 1) := by kernel_rfl
@[go_sem] theorem plc_92 : placesOf Q 92 = some (fun i => some (i * 1, 1)) := by kernel_rfl
@[go_sem] theorem zer_92 : zeros Q 92 = some [.val (.int .u8 0), .val (.int .u8 0), .val (.int .u8 0), .val (.int .u8 0)] := by kernel_rfl
@[go_sem] theorem byt_92 : Q.bytesOf 92 = 4 := by kernel_rfl
@[go_sem] theorem lay_95 : lay Q 95 = some (true, 8) := by kernel_rfl
@[go_sem] theorem und_95 : Q.underlying 95 = some (.array 8 5) := by kernel_rfl
@[go_sem] theorem idx_95 : idx Q 95 = some (some 8, 5, false, 1) := by kernel_rfl
@[go_sem] theorem plc_95 : placesOf Q 95 = some (fun i => some (i * 1, 1)) := by kernel_rfl
@[go_sem] theorem zer_95 : zeros Q 95 = some [.val (.int .u8 0), .val (.int .u8 0), .val (.int .u8 0), .val (.int .u8 0), .val (.int .u8 0), .val (.int .u8 0), .val (.int .u8 0), .val (.int .u8 0)] := by kernel_rfl
@[go_sem] theorem byt_95 : Q.bytesOf 95 = 8 := by kernel_rfl
@[go_sem] theorem lay_98 : lay Q 98 = some (false, 1) := by kernel_rfl
@[go_sem] theorem und_98 : Q.underlying 98 = some (.slice 72) := by kernel_rfl
@[go_sem] theorem idx_98 : idx Q 98 = some (none, 72, false, 1) := by kernel_rfl
@[go_sem] theorem zer_98 : zeros Q 98 = some [.val (.slice none 0 0)] := by kernel_rfl
@[go_sem] theorem byt_98 : Q.bytesOf 98 = 24 := by kernel_rfl
@[go_sem] theorem lay_100 : lay Q 100 = some (true, 32) := by kernel_rfl
@[go_sem] theorem und_100 : Q.underlying 100 = some (.array 4 95) := by kernel_rfl
@[go_sem] theorem idx_100 : idx Q 100 = some (some 4, 95, true, 8) := by kernel_rfl
@[go_sem] theorem plc_100 : placesOf Q 100 = some (fun i => some (i * 8, 8)) := by kernel_rfl
@[go_sem] theorem zer_100 : zeros Q 100 = some [.val (.int .u8 0), .val (.int .u8 0), .val (.int .u8 0), .val (.int .u8 0), .val (.int .u8 0), .val (.int .u8 0), .val (.int .u8 0), .val (.int .u8 0), .val (.int .u8 0), .val (.int .u8 0), .val (.int .u8 0), .val (.int .u8 0), .val (.int .u8 0), .val (.int .u8 0), .val (.int .u8 0), .val (.int .u8 0), .val (.int .u8 0), .val (.int .u8 0), .val (.int .u8 0), .val (.int .u8 0), .val (.int .u8 0), .val (.int .u8 0), .val (.int .u8 0), .val (.int .u8 0), .val (.int .u8 0), .val (.int .u8 0), .val (.int .u8 0), .val (.int .u8 0), .val (.int .u8 0), .val (.int .u8 0), .val (.int .u8 0), .val (.int .u8 0)] := by kernel_rfl
@[go_sem] theorem byt_100 : Q.bytesOf 100 = 32 := by kernel_rfl
@[go_sem] theorem lay_101 : lay Q 101 = some (true, 10) := by kernel_rfl
@[go_sem] theorem und_101 : Q.underlying 101 = some (.array 10 5) := by kernel_rfl
@[go_sem] theorem idx_101 : idx Q 101 = some (some 10, 5, false, 1) := by kernel_rfl
@[go_sem] theorem plc_101 : placesOf Q 101 = some (fun i => some (i * 1, 1)) := by kernel_rfl
@[go_sem] theorem zer_101 : zeros Q 101 = some [.val (.int .u8 0), .val (.int .u8 0), .val (.int .u8 0), .val (.int .u8 0), .val (.int .u8 0), .val (.int .u8 0), .val (.int .u8 0), .val (.int .u8 0), .val (.int .u8 0), .val (.int .u8 0)] := by kernel_rfl
@[go_sem] theorem byt_101 : Q.bytesOf 101 = 10 := by kernel_rfl
@[go_sem] theorem lay_102 : lay Q 102 = some (false, 1) := by kernel_rfl
@[go_sem] theorem und_102 : Q.underlying 102 = some (.int .u64) := by kernel_rfl
@[go_sem] theorem zer_102 : zeros Q 102 = some [.val (.int .u64 0)] := by kernel_rfl
@[go_sem] theorem byt_102 : Q.bytesOf 102 = 8 := by kernel_rfl
@[go_sem] theorem lay_108 : lay Q 108 = some (false, 1) := by kernel_rfl
@[go_sem] theorem und_108 : Q.underlying 108 = some (.pointer 123) := by kernel_rfl
@[go_sem] theorem zer_108 : zeros Q 108 = some [.val (.pointer none)] := by kernel_rfl
@[go_sem] theorem byt_108 : Q.bytesOf 108 = 8 := by kernel_rfl
@[go_sem] theorem lay_110 : lay Q 110 = some (true, 5) := by kernel_rfl
@[go_sem] theorem fld_110_0 : fld Q 110 0 = some (0, false, 1) := by kernel_rfl
@[go_sem] theorem fld_110_1 : fld Q 110 1 = some (1, false, 1) := by kernel_rfl
@[go_sem] theorem fld_110_2 : fld Q 110 2 = some (2, false, 1) := by kernel_rfl
@[go_sem] theorem fld_110_3 : fld Q 110 3 = some (3, false, 1) := by kernel_rfl
@[go_sem] theorem fld_110_4 : fld Q 110 4 = some (4, false, 1) := by kernel_rfl
@[go_sem] theorem plc_110 : placesOf Q 110 = some (#[(0, 1), (1, 1), (2, 1), (3, 1), (4, 1)][·]?) := by kernel_rfl
@[go_sem] theorem zer_110 : zeros Q 110 = some [.val (.pointer none), .val (.slice none 0 0), .val (.slice none 0 0), .val (.int .i64 0), .val (.slice none 0 0)] := by kernel_rfl
@[go_sem] theorem byt_110 : Q.bytesOf 110 = 88 := by kernel_rfl
@[go_sem] theorem lay_115 : lay Q 115 = some (true, 2) := by kernel_rfl
@[go_sem] theorem fld_115_0 : fld Q 115 0 = some (0, false, 1) := by kernel_rfl
@[go_sem] theorem fld_115_1 : fld Q 115 1 = some (1, false, 1) := by kernel_rfl
@[go_sem] theorem plc_115 : placesOf Q 115 = some (#[(0, 1), (1, 1)][·]?) := by kernel_rfl
@[go_sem] theorem flat_115 : flatInts Q 115 = some 2 := by kernel_rfl
@[go_sem] theorem zer_115 : zeros Q 115 = some [.val (.int .i64 0), .val (.int .i64 0)] := by kernel_rfl
@[go_sem] theorem byt_115 : Q.bytesOf 115 = 16 := by kernel_rfl
@[go_sem] theorem lay_120 : lay Q 120 = some (true, 8) := by kernel_rfl
@[go_sem] theorem und_120 : Q.underlying 120 = some (.array 8 3) := by kernel_rfl
@[go_sem] theorem idx_120 : idx Q 120 = some (some 8, 3, false, 1) := by kernel_rfl
@[go_sem] theorem plc_120 : placesOf Q 120 = some (fun i => some (i * 1, 1)) := by kernel_rfl
@[go_sem] theorem zer_120 : zeros Q 120 = some [.val (.int .i64 0), .val (.int .i64 0), .val (.int .i64 0), .val (.int .i64 0), .val (.int .i64 0), .val (.int .i64 0), .val (.int .i64 0), .val (.int .i64 0)] := by kernel_rfl
@[go_sem] theorem byt_120 : Q.bytesOf 120 = 64 := by kernel_rfl
@[go_sem] theorem lay_121 : lay Q 121 = some (false, 1) := by kernel_rfl
@[go_sem] theorem und_121 : Q.underlying 121 = some (.map 115 4) := by kernel_rfl
@[go_sem] theorem zer_121 : zeros Q 121 = some [.val (.map none)] := by kernel_rfl
@[go_sem] theorem mty_121 : mapTy Q 121 = some (115, 4) := by kernel_rfl
theorem zrf_4 : zeroF Q 4 = some (.val (.bool false)) := by kernel_rfl
theorem key_115 : Maps.Keyed Q 115 := Maps.Keyed.of_law (deep_law_laid (by kernel_rfl) (m := 3) (by omega) (of_decide_eq_true (by kernel_rfl)) (by kernel_rfl) (by kernel_rfl))
@[go_sem] theorem byt_121 : Q.bytesOf 121 = 8 := by kernel_rfl
@[go_sem] theorem lay_123 : lay Q 123 = some (true, 12) := by kernel_rfl
@[go_sem] theorem fld_123_0 : fld Q 123 0 = some (0, true, 3) := by kernel_rfl
@[go_sem] theorem fld_123_1 : fld Q 123 1 = some (3, true, 8) := by kernel_rfl
@[go_sem] theorem fld_123_2 : fld Q 123 2 = some (11, false, 1) := by kernel_rfl
@[go_sem] theorem plc_123 : placesOf Q 123 = some (#[(0, 3), (3, 8), (11, 1)][·]?) := by kernel_rfl
@[go_sem] theorem zer_123 : zeros Q 123 = some [.val (.int .i64 0), .val (.slice none 0 0), .val (.slice none 0 0), .val (.int .i64 0), .val (.int .i64 0), .val (.int .i64 0), .val (.int .i64 0), .val (.int .i64 0), .val (.int .i64 0), .val (.int .i64 0), .val (.int .i64 0), .val (.map none)] := by kernel_rfl
@[go_sem] theorem byt_123 : Q.bytesOf 123 = 128 := by kernel_rfl
@[go_sem] theorem lay_125 : lay Q 125 = some (true, 8) := by kernel_rfl
@[go_sem] theorem und_125 : Q.underlying 125 = some (.array 8 3) := by kernel_rfl
@[go_sem] theorem idx_125 : idx Q 125 = some (some 8, 3, false, 1) := by kernel_rfl
@[go_sem] theorem plc_125 : placesOf Q 125 = some (fun i => some (i * 1, 1)) := by kernel_rfl
@[go_sem] theorem zer_125 : zeros Q 125 = some [.val (.int .i64 0), .val (.int .i64 0), .val (.int .i64 0), .val (.int .i64 0), .val (.int .i64 0), .val (.int .i64 0), .val (.int .i64 0), .val (.int .i64 0)] := by kernel_rfl
@[go_sem] theorem byt_125 : Q.bytesOf 125 = 64 := by kernel_rfl
@[go_sem] theorem lay_129 : lay Q 129 = some (true, 4) := by kernel_rfl
@[go_sem] theorem fld_129_0 : fld Q 129 0 = some (0, false, 1) := by kernel_rfl
@[go_sem] theorem fld_129_1 : fld Q 129 1 = some (1, false, 1) := by kernel_rfl
@[go_sem] theorem fld_129_2 : fld Q 129 2 = some (2, false, 1) := by kernel_rfl
@[go_sem] theorem fld_129_3 : fld Q 129 3 = some (3, false, 1) := by kernel_rfl
@[go_sem] theorem plc_129 : placesOf Q 129 = some (#[(0, 1), (1, 1), (2, 1), (3, 1)][·]?) := by kernel_rfl
@[go_sem] theorem zer_129 : zeros Q 129 = some [.val (.pointer none), .val (.slice none 0 0), .val (.slice none 0 0), .val (.int .i64 0)] := by kernel_rfl
@[go_sem] theorem byt_129 : Q.bytesOf 129 = 64 := by kernel_rfl
@[go_sem] theorem lay_133 : lay Q 133 = some (false, 1) := by kernel_rfl
@[go_sem] theorem zer_133 : zeros Q 133 = some [.val .nilFunc] := by kernel_rfl
@[go_sem] theorem byt_133 : Q.bytesOf 133 = 8 := by kernel_rfl
@[go_sem] theorem lay_134 : lay Q 134 = some (true, 8) := by kernel_rfl
@[go_sem] theorem und_134 : Q.underlying 134 = some (.array 8 4) := by kernel_rfl
@[go_sem] theorem idx_134 : idx Q 134 = some (some 8, 4, false, 1) := by kernel_rfl
@[go_sem] theorem plc_134 : placesOf Q 134 = some (fun i => some (i * 1, 1)) := by kernel_rfl
@[go_sem] theorem zer_134 : zeros Q 134 = some [.val (.bool false), .val (.bool false), .val (.bool false), .val (.bool false), .val (.bool false), .val (.bool false), .val (.bool false), .val (.bool false)] := by kernel_rfl
@[go_sem] theorem byt_134 : Q.bytesOf 134 = 8 := by kernel_rfl
@[go_sem] theorem lay_135 : lay Q 135 = some (true, 2) := by kernel_rfl
@[go_sem] theorem und_135 : Q.underlying 135 = some (.array 2 5) := by kernel_rfl
@[go_sem] theorem idx_135 : idx Q 135 = some (some 2, 5, false, 1) := by kernel_rfl
@[go_sem] theorem plc_135 : placesOf Q 135 = some (fun i => some (i * 1, 1)) := by kernel_rfl
@[go_sem] theorem zer_135 : zeros Q 135 = some [.val (.int .u8 0), .val (.int .u8 0)] := by kernel_rfl
@[go_sem] theorem byt_135 : Q.bytesOf 135 = 2 := by kernel_rfl
@[go_sem] theorem lay_138 : lay Q 138 = some (false, 1) := by kernel_rfl
@[go_sem] theorem und_138 : Q.underlying 138 = some (.slice 141) := by kernel_rfl
@[go_sem] theorem idx_138 : idx Q 138 = some (none, 141, true, 2) := by kernel_rfl
@[go_sem] theorem zer_138 : zeros Q 138 = some [.val (.slice none 0 0)] := by kernel_rfl
@[go_sem] theorem byt_138 : Q.bytesOf 138 = 24 := by kernel_rfl
@[go_sem] theorem lay_141 : lay Q 141 = some (true, 2) := by kernel_rfl
@[go_sem] theorem fld_141_0 : fld Q 141 0 = some (0, false, 1) := by kernel_rfl
@[go_sem] theorem fld_141_1 : fld Q 141 1 = some (1, false, 1) := by kernel_rfl
@[go_sem] theorem plc_141 : placesOf Q 141 = some (#[(0, 1), (1, 1)][·]?) := by kernel_rfl
@[go_sem] theorem flat_141 : flatInts Q 141 = some 2 := by kernel_rfl
@[go_sem] theorem zer_141 : zeros Q 141 = some [.val (.int .i64 0), .val (.int .i64 0)] := by kernel_rfl
@[go_sem] theorem byt_141 : Q.bytesOf 141 = 16 := by kernel_rfl
@[go_sem] theorem lay_150 : lay Q 150 = some (false, 1) := by kernel_rfl
@[go_sem] theorem und_150 : Q.underlying 150 = some (.map 3 3) := by kernel_rfl
@[go_sem] theorem zer_150 : zeros Q 150 = some [.val (.map none)] := by kernel_rfl
@[go_sem] theorem mty_150 : mapTy Q 150 = some (3, 3) := by kernel_rfl
theorem zrf_3 : zeroF Q 3 = some (.val (.int .i64 0)) := by kernel_rfl
theorem key_3 : Maps.Keyed Q 3 := Maps.int_keyed (q := .i64) (by kernel_rfl)
@[go_sem] theorem byt_150 : Q.bytesOf 150 = 8 := by kernel_rfl
@[go_sem] theorem lay_151 : lay Q 151 = some (false, 1) := by kernel_rfl
@[go_sem] theorem und_151 : Q.underlying 151 = some (.map 3 4) := by kernel_rfl
@[go_sem] theorem zer_151 : zeros Q 151 = some [.val (.map none)] := by kernel_rfl
@[go_sem] theorem mty_151 : mapTy Q 151 = some (3, 4) := by kernel_rfl
@[go_sem] theorem byt_151 : Q.bytesOf 151 = 8 := by kernel_rfl
@[go_sem] theorem lay_154 : lay Q 154 = some (false, 1) := by kernel_rfl
@[go_sem] theorem zer_154 : zeros Q 154 = some [.val .nilFunc] := by kernel_rfl
@[go_sem] theorem byt_154 : Q.bytesOf 154 = 8 := by kernel_rfl
@[go_sem] theorem lay_155 : lay Q 155 = some (false, 1) := by kernel_rfl
@[go_sem] theorem zer_155 : zeros Q 155 = some [.val .nilFunc] := by kernel_rfl
@[go_sem] theorem byt_155 : Q.bytesOf 155 = 8 := by kernel_rfl
@[go_sem] theorem lay_157 : lay Q 157 = some (false, 1) := by kernel_rfl
@[go_sem] theorem zer_157 : zeros Q 157 = some [.val .nilFunc] := by kernel_rfl
@[go_sem] theorem byt_157 : Q.bytesOf 157 = 8 := by kernel_rfl
@[go_sem] theorem lay_158 : lay Q 158 = some (false, 1) := by kernel_rfl
@[go_sem] theorem zer_158 : zeros Q 158 = some [.val .nilFunc] := by kernel_rfl
@[go_sem] theorem byt_158 : Q.bytesOf 158 = 8 := by kernel_rfl
@[go_sem] theorem lay_162 : lay Q 162 = some (false, 1) := by kernel_rfl
@[go_sem] theorem zer_162 : zeros Q 162 = some [.val .nilFunc] := by kernel_rfl
@[go_sem] theorem byt_162 : Q.bytesOf 162 = 8 := by kernel_rfl
@[go_sem] theorem lay_163 : lay Q 163 = some (false, 1) := by kernel_rfl
@[go_sem] theorem zer_163 : zeros Q 163 = some [.val .nilFunc] := by kernel_rfl
@[go_sem] theorem byt_163 : Q.bytesOf 163 = 8 := by kernel_rfl
@[go_sem] theorem lay_167 : lay Q 167 = some (false, 1) := by kernel_rfl
@[go_sem] theorem zer_167 : zeros Q 167 = some [.val .nilFunc] := by kernel_rfl
@[go_sem] theorem byt_167 : Q.bytesOf 167 = 8 := by kernel_rfl
@[go_sem] theorem lay_169 : lay Q 169 = some (false, 1) := by kernel_rfl
@[go_sem] theorem zer_169 : zeros Q 169 = some [.val .nilFunc] := by kernel_rfl
@[go_sem] theorem byt_169 : Q.bytesOf 169 = 8 := by kernel_rfl

def qt (n : Nat) : Operand := .tmp n
def qi (n : Int) : Operand := .const (.int .i64 n)
def sop (nb d : Nat) (r : Op) (t : Nat) : SO := ⟨some d, r, t, none, some (nb + d)⟩
def gop (nb d : Nat) (r : Op) (t s : Nat) (w : Bool) : SO := ⟨some d, r, t, some (s, w), some (nb + d)⟩
def nop (r : Op) (t : Nat) : SO := ⟨none, r, t, none, none⟩
def qmv (nb d s t : Nat) : SO := ⟨some d, .move (.tmp s), t, none, some (nb + d)⟩
def qsg (nb d s t : Nat) : SO := ⟨some d, .assign (.tmp s), t, none, some (nb + d)⟩
def qex (nb d s i t : Nat) : SO := ⟨some d, .extract (.tmp s) i, t, none, some (nb + d)⟩
def qld (nb d t a : Nat) : SO := ⟨some d, .load t (.tmp a), t, none, some (nb + d)⟩
def qcl (nb d f : Nat) (a : Array Operand) (ts : Array Nat) (t : Nat) : SO := ⟨some d, .call { callee := .value (.func f), args := a, argTypes := ts }, t, none, some (nb + d)⟩
def qln (nb d : Nat) (a : Array Operand) (ts : Array Nat) (t : Nat) : SO := ⟨some d, .call { callee := .builtin .len, args := a, argTypes := ts }, t, none, some (nb + d)⟩
def qix (nb d t a b u : Nat) : SO := ⟨some d, .indexAddr t (.tmp a) (.tmp b), u, none, some (nb + d)⟩
def qbo (nb d : Nat) (o : BinOp) (t a : Nat) (b : Operand) (t' u : Nat) : SO := ⟨some d, .binOp o t (.tmp a) b t', u, none, some (nb + d)⟩
theorem mix : Q.follows .mixedOrders = true := by kernel_rfl
end S07

