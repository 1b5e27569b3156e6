/- A part of the proof: F07. -/
import Derived.Test.YtmanbdacloeioaaProg
import Derived.Test.YtmanbdacloeioaaAbsW
import Derived.DeepKeys4
set_option linter.unusedVariables false
set_option linter.unusedSimpArgs false
set_option maxRecDepth 20000
namespace S07
open Go Abs
noncomputable abbrev Q : Program := Go.Proofs.Try.prog
@[go_sem] theorem lay_3 : lay Q 3 = some (false, 1) := by kernel_rfl
@[go_sem] theorem und_3 : Q.underlying 3 = some (.int .i64) := by kernel_rfl
@[go_sem] theorem zer_3 : zeros Q 3 = some [.val (.int .i64 0)] := by kernel_rfl
@[go_sem] theorem byt_3 : Q.bytesOf 3 = 8 := by kernel_rfl
@[go_sem] theorem lay_22 : lay Q 22 = some (false, 1) := by kernel_rfl
@[go_sem] theorem und_22 : Q.underlying 22 = some (.slice 115) := by kernel_rfl
@[go_sem] theorem idx_22 : idx Q 22 = some (none, 115, true, 2) := by kernel_rfl
@[go_sem] theorem lay_24 : lay Q 24 = some (true, 3) := by kernel_rfl
@[go_sem] theorem fld_24_0 : fld Q 24 0 = some (0, false, 1) := by kernel_rfl
@[go_sem] theorem fld_24_1 : fld Q 24 1 = some (1, false, 1) := by kernel_rfl
@[go_sem] theorem fld_24_2 : fld Q 24 2 = some (2, false, 1) := by kernel_rfl
@[go_sem] theorem plc_24 : placesOf Q 24 = some (#[(0, 1), (1, 1), (2, 1)][·]?) := by kernel_rfl
@[go_sem] theorem zer_24 : zeros Q 24 = some [.val (.int .i64 0), .val (.slice none 0 0), .val (.slice none 0 0)] := by kernel_rfl
@[go_sem] theorem lay_25 : lay Q 25 = some (false, 1) := by kernel_rfl
@[go_sem] theorem und_25 : Q.underlying 25 = some (.slice 26) := by kernel_rfl
@[go_sem] theorem idx_25 : idx Q 25 = some (none, 26, false, 1) := by kernel_rfl
@[go_sem] theorem lay_26 : lay Q 26 = some (false, 1) := by kernel_rfl
@[go_sem] theorem und_26 : Q.underlying 26 = some (.slice 3) := by kernel_rfl
@[go_sem] theorem idx_26 : idx Q 26 = some (none, 3, false, 1) := by kernel_rfl
@[go_sem] theorem zer_26 : zeros Q 26 = some [.val (.slice none 0 0)] := by kernel_rfl
@[go_sem] theorem byt_26 : Q.bytesOf 26 = 24 := by kernel_rfl
@[go_sem] theorem lay_59 : lay Q 59 = some (true, 2) := by kernel_rfl
@[go_sem] theorem fld_59_0 : fld Q 59 0 = some (0, false, 1) := by kernel_rfl
@[go_sem] theorem fld_59_1 : fld Q 59 1 = some (1, false, 1) := by kernel_rfl
@[go_sem] theorem lay_76 : lay Q 76 = some (false, 1) := by kernel_rfl
@[go_sem] theorem zer_76 : zeros Q 76 = some [.val (.int .i64 0)] := by kernel_rfl
@[go_sem] theorem byt_76 : Q.bytesOf 76 = 8 := by kernel_rfl
@[go_sem] theorem und_79 : Q.underlying 79 = some (.slice 82) := by kernel_rfl
@[go_sem] theorem idx_79 : idx Q 79 = some (none, 82, false, 1) := by kernel_rfl
@[go_sem] theorem lay_82 : lay Q 82 = some (false, 1) := by kernel_rfl
@[go_sem] theorem und_82 : Q.underlying 82 = some (.slice 76) := by kernel_rfl
@[go_sem] theorem idx_82 : idx Q 82 = some (none, 76, false, 1) := by kernel_rfl
@[go_sem] theorem zer_82 : zeros Q 82 = some [.val (.slice none 0 0)] := by kernel_rfl
@[go_sem] theorem byt_82 : Q.bytesOf 82 = 24 := by kernel_rfl
@[go_sem] theorem lay_88 : lay Q 88 = some (true, 4) := by kernel_rfl
@[go_sem] theorem idx_88 : idx Q 88 = some (some 4, 3, false, 1) := by kernel_rfl
@[go_sem] theorem zer_88 : zeros Q 88 = some [.val (.int .i64 0), .val (.int .i64 0), .val (.int .i64 0), .val (.int .i64 0)] := by kernel_rfl
@[go_sem] theorem und_102 : Q.underlying 102 = some (.int .u64) := by kernel_rfl
@[go_sem] theorem lay_108 : lay Q 108 = some (false, 1) := by kernel_rfl
@[go_sem] theorem zer_108 : zeros Q 108 = some [.val (.pointer none)] := by kernel_rfl
@[go_sem] theorem lay_110 : lay Q 110 = some (true, 5) := by kernel_rfl
@[go_sem] theorem fld_110_0 : fld Q 110 0 = some (0, false, 1) := by kernel_rfl
@[go_sem] theorem fld_110_1 : fld Q 110 1 = some (1, false, 1) := by kernel_rfl
@[go_sem] theorem fld_110_2 : fld Q 110 2 = some (2, false, 1) := by kernel_rfl
@[go_sem] theorem fld_110_3 : fld Q 110 3 = some (3, false, 1) := by kernel_rfl
@[go_sem] theorem fld_110_4 : fld Q 110 4 = some (4, false, 1) := by kernel_rfl
@[go_sem] theorem plc_110 : placesOf Q 110 = some (#[(0, 1), (1, 1), (2, 1), (3, 1), (4, 1)][·]?) := by kernel_rfl
@[go_sem] theorem zer_110 : zeros Q 110 = some [.val (.pointer none), .val (.slice none 0 0), .val (.slice none 0 0), .val (.int .i64 0), .val (.slice none 0 0)] := by kernel_rfl
@[go_sem] theorem lay_115 : lay Q 115 = some (true, 2) := by kernel_rfl
@[go_sem] theorem fld_115_0 : fld Q 115 0 = some (0, false, 1) := by kernel_rfl
@[go_sem] theorem fld_115_1 : fld Q 115 1 = some (1, false, 1) := by kernel_rfl
@[go_sem] theorem plc_115 : placesOf Q 115 = some (#[(0, 1), (1, 1)][·]?) := by kernel_rfl
@[go_sem] theorem flat_115 : flatInts Q 115 = some 2 := by kernel_rfl
@[go_sem] theorem zer_115 : zeros Q 115 = some [.val (.int .i64 0), .val (.int .i64 0)] := by kernel_rfl
@[go_sem] theorem byt_115 : Q.bytesOf 115 = 16 := by kernel_rfl
@[go_sem] theorem idx_120 : idx Q 120 = some (some 8, 3, false, 1) := by kernel_rfl
@[go_sem] theorem lay_121 : lay Q 121 = some (false, 1) := by kernel_rfl
@[go_sem] theorem mty_121 : mapTy Q 121 = some (115, 4) := by kernel_rfl
theorem zrf_4 : zeroF Q 4 = some (.val (.bool false)) := by kernel_rfl
theorem key_115 : Maps.Keyed Q 115 := Maps.Keyed.of_law (deep_law_laid (by kernel_rfl) (m := 3) (by omega) (of_decide_eq_true (by kernel_rfl)) (by kernel_rfl) (by kernel_rfl))
@[go_sem] theorem lay_123 : lay Q 123 = some (true, 12) := by kernel_rfl
@[go_sem] theorem fld_123_0 : fld Q 123 0 = some (0, true, 3) := by kernel_rfl
@[go_sem] theorem fld_123_1 : fld Q 123 1 = some (3, true, 8) := by kernel_rfl
@[go_sem] theorem fld_123_2 : fld Q 123 2 = some (11, false, 1) := by kernel_rfl
@[go_sem] theorem plc_123 : placesOf Q 123 = some (#[(0, 3), (3, 8), (11, 1)][·]?) := by kernel_rfl
@[go_sem] theorem zer_123 : zeros Q 123 = some [.val (.int .i64 0), .val (.slice none 0 0), .val (.slice none 0 0), .val (.int .i64 0), .val (.int .i64 0), .val (.int .i64 0), .val (.int .i64 0), .val (.int .i64 0), .val (.int .i64 0), .val (.int .i64 0), .val (.int .i64 0), .val (.map none)] := by kernel_rfl
@[go_sem] theorem lay_125 : lay Q 125 = some (true, 8) := by kernel_rfl
@[go_sem] theorem idx_125 : idx Q 125 = some (some 8, 3, false, 1) := by kernel_rfl
@[go_sem] theorem zer_125 : zeros Q 125 = some [.val (.int .i64 0), .val (.int .i64 0), .val (.int .i64 0), .val (.int .i64 0), .val (.int .i64 0), .val (.int .i64 0), .val (.int .i64 0), .val (.int .i64 0)] := by kernel_rfl
@[go_sem] theorem lay_129 : lay Q 129 = some (true, 4) := by kernel_rfl
@[go_sem] theorem fld_129_0 : fld Q 129 0 = some (0, false, 1) := by kernel_rfl
@[go_sem] theorem fld_129_1 : fld Q 129 1 = some (1, false, 1) := by kernel_rfl
@[go_sem] theorem fld_129_2 : fld Q 129 2 = some (2, false, 1) := by kernel_rfl
@[go_sem] theorem fld_129_3 : fld Q 129 3 = some (3, false, 1) := by kernel_rfl
@[go_sem] theorem plc_129 : placesOf Q 129 = some (#[(0, 1), (1, 1), (2, 1), (3, 1)][·]?) := by kernel_rfl
@[go_sem] theorem zer_129 : zeros Q 129 = some [.val (.pointer none), .val (.slice none 0 0), .val (.slice none 0 0), .val (.int .i64 0)] := by kernel_rfl
@[go_sem] theorem lay_138 : lay Q 138 = some (false, 1) := by kernel_rfl
@[go_sem] theorem und_138 : Q.underlying 138 = some (.slice 141) := by kernel_rfl
@[go_sem] theorem idx_138 : idx Q 138 = some (none, 141, true, 2) := by kernel_rfl
@[go_sem] theorem zer_138 : zeros Q 138 = some [.val (.slice none 0 0)] := by kernel_rfl
@[go_sem] theorem lay_141 : lay Q 141 = some (true, 2) := by kernel_rfl
@[go_sem] theorem fld_141_0 : fld Q 141 0 = some (0, false, 1) := by kernel_rfl
@[go_sem] theorem fld_141_1 : fld Q 141 1 = some (1, false, 1) := by kernel_rfl
@[go_sem] theorem plc_141 : placesOf Q 141 = some (#[(0, 1), (1, 1)][·]?) := by kernel_rfl
@[go_sem] theorem zer_141 : zeros Q 141 = some [.val (.int .i64 0), .val (.int .i64 0)] := by kernel_rfl
@[go_sem] theorem byt_141 : Q.bytesOf 141 = 16 := by kernel_rfl
@[go_sem] theorem mty_150 : mapTy Q 150 = some (3, 3) := by kernel_rfl
theorem zrf_3 : zeroF Q 3 = some (.val (.int .i64 0)) := by kernel_rfl
theorem key_3 : Maps.Keyed Q 3 := Maps.int_keyed (q := .i64) (by kernel_rfl)
@[go_sem] theorem mty_151 : mapTy Q 151 = some (3, 4) := by kernel_rfl
@[go_sem] theorem lay_154 : lay Q 154 = some (false, 1) := by kernel_rfl
@[go_sem] theorem lay_157 : lay Q 157 = some (false, 1) := by kernel_rfl
@[go_sem] theorem zer_157 : zeros Q 157 = some [.val .nilFunc] := by kernel_rfl
@[go_sem] theorem lay_163 : lay Q 163 = some (false, 1) := by kernel_rfl
@[go_sem] theorem zer_163 : zeros Q 163 = some [.val .nilFunc] := by kernel_rfl
def qt (n : Nat) : Operand := .tmp n
def qi (n : Int) : Operand := .const (.int .i64 n)
def sop (nb d : Nat) (r : Op) (t : Nat) : SO := ⟨some d, r, t, none, some (nb + d)⟩
def gop (nb d : Nat) (r : Op) (t s : Nat) (w : Bool) : SO := ⟨some d, r, t, some (s, w), some (nb + d)⟩
def nop (r : Op) (t : Nat) : SO := ⟨none, r, t, none, none⟩
def qmv (nb d s t : Nat) : SO := ⟨some d, .move (.tmp s), t, none, some (nb + d)⟩
def qsg (nb d s t : Nat) : SO := ⟨some d, .assign (.tmp s), t, none, some (nb + d)⟩
def qex (nb d s i t : Nat) : SO := ⟨some d, .extract (.tmp s) i, t, none, some (nb + d)⟩
def qld (nb d t a : Nat) : SO := ⟨some d, .load t (.tmp a), t, none, some (nb + d)⟩
def qcl (nb d f : Nat) (a : Array Operand) (ts : Array Nat) (t : Nat) : SO := ⟨some d, .call { callee := .value (.func f), args := a, argTypes := ts }, t, none, some (nb + d)⟩
def qln (nb d : Nat) (a : Array Operand) (ts : Array Nat) (t : Nat) : SO := ⟨some d, .call { callee := .builtin .len, args := a, argTypes := ts }, t, none, some (nb + d)⟩
def qix (nb d t a b u : Nat) : SO := ⟨some d, .indexAddr t (.tmp a) (.tmp b), u, none, some (nb + d)⟩
def qbo (nb d : Nat) (o : BinOp) (t a : Nat) (b : Operand) (t' u : Nat) : SO := ⟨some d, .binOp o t (.tmp a) b t', u, none, some (nb + d)⟩
theorem mix : Q.follows .mixedOrders = true := by kernel_rfl
end S07

