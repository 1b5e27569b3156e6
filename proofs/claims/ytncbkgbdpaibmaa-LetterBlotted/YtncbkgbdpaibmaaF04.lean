/- A part of the proof: F04. -/
import Derived.Test.YtncbkgbdpaibmaaProg
import Derived.Test.YtncbkgbdpaibmaaAbsW
import Derived.DeepKeys4
set_option linter.unusedVariables false
set_option linter.unusedSimpArgs false
set_option maxRecDepth 20000
namespace S04
open Go Abs
noncomputable abbrev Q : Program := Go.Proofs.Try.prog
@[go_sem] theorem lay_3 : lay Q 3 = some (false, 1) := by kernel_rfl
@[go_sem] theorem und_3 : Q.underlying 3 = some (.int .i64) := by kernel_rfl
@[go_sem] theorem zer_3 : zeros Q 3 = some [.val (.int .i64 0)] := by kernel_rfl
@[go_sem] theorem byt_3 : Q.bytesOf 3 = 8 := by kernel_rfl
@[go_sem] theorem lay_4 : lay Q 4 = some (false, 1) := by kernel_rfl
@[go_sem] theorem zer_4 : zeros Q 4 = some [.val (.bool false)] := by kernel_rfl
@[go_sem] theorem lay_5 : lay Q 5 = some (false, 1) := by kernel_rfl
@[go_sem] theorem und_5 : Q.underlying 5 = some (.int .u8) := by kernel_rfl
@[go_sem] theorem lay_22 : lay Q 22 = some (false, 1) := by kernel_rfl
@[go_sem] theorem und_22 : Q.underlying 22 = some (.slice 3) := by kernel_rfl
@[go_sem] theorem idx_22 : idx Q 22 = some (none, 3, false, 1) := by kernel_rfl
@[go_sem] theorem zer_22 : zeros Q 22 = some [.val (.slice none 0 0)] := by kernel_rfl
@[go_sem] theorem byt_22 : Q.bytesOf 22 = 24 := by kernel_rfl
@[go_sem] theorem lay_23 : lay Q 23 = some (false, 1) := by kernel_rfl
@[go_sem] theorem und_23 : Q.underlying 23 = some (.slice 108) := by kernel_rfl
@[go_sem] theorem idx_23 : idx Q 23 = some (none, 108, true, 3) := by kernel_rfl
@[go_sem] theorem lay_25 : lay Q 25 = some (true, 5) := by kernel_rfl
@[go_sem] theorem fld_25_0 : fld Q 25 0 = some (0, false, 1) := by kernel_rfl
@[go_sem] theorem fld_25_1 : fld Q 25 1 = some (1, false, 1) := by kernel_rfl
@[go_sem] theorem fld_25_2 : fld Q 25 2 = some (2, false, 1) := by kernel_rfl
@[go_sem] theorem fld_25_3 : fld Q 25 3 = some (3, false, 1) := by kernel_rfl
@[go_sem] theorem fld_25_4 : fld Q 25 4 = some (4, false, 1) := by kernel_rfl
@[go_sem] theorem plc_25 : placesOf Q 25 = some (#[(0, 1), (1, 1), (2, 1), (3, 1), (4, 1)][·]?) := by kernel_rfl
@[go_sem] theorem zer_25 : zeros Q 25 = some [.val (.slice none 0 0), .val (.slice none 0 0), .val (.int .i64 0), .val (.int .i64 0), .val (.int .i64 0)] := by kernel_rfl
@[go_sem] theorem lay_47 : lay Q 47 = some (true, 2) := by kernel_rfl
@[go_sem] theorem idx_47 : idx Q 47 = some (some 2, 3, false, 1) := by kernel_rfl
@[go_sem] theorem plc_47 : placesOf Q 47 = some (fun i => some (i * 1, 1)) := by kernel_rfl
@[go_sem] theorem zer_47 : zeros Q 47 = some [.val (.int .i64 0), .val (.int .i64 0)] := by kernel_rfl
@[go_sem] theorem lay_56 : lay Q 56 = some (false, 1) := by kernel_rfl
@[go_sem] theorem und_56 : Q.underlying 56 = some (.slice 22) := by kernel_rfl
@[go_sem] theorem idx_56 : idx Q 56 = some (none, 22, false, 1) := by kernel_rfl
@[go_sem] theorem lay_71 : lay Q 71 = some (true, 2) := by kernel_rfl
@[go_sem] theorem fld_71_0 : fld Q 71 0 = some (0, false, 1) := by kernel_rfl
@[go_sem] theorem fld_71_1 : fld Q 71 1 = some (1, false, 1) := by kernel_rfl
@[go_sem] theorem plc_71 : placesOf Q 71 = some (#[(0, 1), (1, 1)][·]?) := by kernel_rfl
@[go_sem] theorem zer_71 : zeros Q 71 = some [.val (.int .i64 0), .val (.int .i64 0)] := by kernel_rfl
@[go_sem] theorem lay_77 : lay Q 77 = some (true, 6) := by kernel_rfl
@[go_sem] theorem idx_77 : idx Q 77 = some (some 6, 5, false, 1) := by kernel_rfl
@[go_sem] theorem lay_78 : lay Q 78 = some (false, 1) := by kernel_rfl
@[go_sem] theorem und_78 : Q.underlying 78 = some (.slice 96) := by kernel_rfl
@[go_sem] theorem idx_78 : idx Q 78 = some (none, 96, true, 2) := by kernel_rfl
@[go_sem] theorem idx_79 : idx Q 79 = some (some 3, 5, false, 1) := by kernel_rfl
@[go_sem] theorem lay_81 : lay Q 81 = some (true, 10) := by kernel_rfl
@[go_sem] theorem fld_81_0 : fld Q 81 0 = some (0, true, 6) := by kernel_rfl
@[go_sem] theorem fld_81_1 : fld Q 81 1 = some (6, false, 1) := by kernel_rfl
@[go_sem] theorem fld_81_2 : fld Q 81 2 = some (7, true, 3) := by kernel_rfl
@[go_sem] theorem und_82 : Q.underlying 82 = some (.slice 5) := by kernel_rfl
@[go_sem] theorem idx_82 : idx Q 82 = some (none, 5, false, 1) := by kernel_rfl
@[go_sem] theorem lay_93 : lay Q 93 = some (false, 1) := by kernel_rfl
@[go_sem] theorem idx_96 : idx Q 96 = some (some 2, 5, false, 1) := by kernel_rfl
@[go_sem] theorem lay_108 : lay Q 108 = some (true, 3) := by kernel_rfl
@[go_sem] theorem fld_108_0 : fld Q 108 0 = some (0, false, 1) := by kernel_rfl
@[go_sem] theorem fld_108_1 : fld Q 108 1 = some (1, false, 1) := by kernel_rfl
@[go_sem] theorem fld_108_2 : fld Q 108 2 = some (2, false, 1) := by kernel_rfl
@[go_sem] theorem plc_108 : placesOf Q 108 = some (#[(0, 1), (1, 1), (2, 1)][·]?) := by kernel_rfl
@[go_sem] theorem zer_108 : zeros Q 108 = some [.val (.int .i64 0), .val (.int .i64 0), .val (.int .i64 0)] := by kernel_rfl
@[go_sem] theorem byt_108 : Q.bytesOf 108 = 24 := by kernel_rfl
@[go_sem] theorem lay_112 : lay Q 112 = some (false, 1) := by kernel_rfl
@[go_sem] theorem und_112 : Q.underlying 112 = some (.map 47 3) := by kernel_rfl
@[go_sem] theorem mty_112 : mapTy Q 112 = some (47, 3) := by kernel_rfl
theorem zrf_3 : zeroF Q 3 = some (.val (.int .i64 0)) := by kernel_rfl
theorem key_47 : Maps.Keyed Q 47 := Maps.Keyed.of_law (deep_law_laid (by kernel_rfl) (m := 3) (by omega) (of_decide_eq_true (by kernel_rfl)) (by kernel_rfl) (by kernel_rfl))
@[go_sem] theorem lay_115 : lay Q 115 = some (true, 6) := by kernel_rfl
@[go_sem] theorem fld_115_0 : fld Q 115 0 = some (0, true, 5) := by kernel_rfl
@[go_sem] theorem fld_115_1 : fld Q 115 1 = some (5, false, 1) := by kernel_rfl
@[go_sem] theorem plc_115 : placesOf Q 115 = some (#[(0, 5), (5, 1)][·]?) := by kernel_rfl
@[go_sem] theorem zer_115 : zeros Q 115 = some [.val (.slice none 0 0), .val (.slice none 0 0), .val (.int .i64 0), .val (.int .i64 0), .val (.int .i64 0), .val (.map none)] := by kernel_rfl
@[go_sem] theorem lay_123 : lay Q 123 = some (true, 2) := by kernel_rfl
@[go_sem] theorem fld_123_0 : fld Q 123 0 = some (0, false, 1) := by kernel_rfl
@[go_sem] theorem fld_123_1 : fld Q 123 1 = some (1, false, 1) := by kernel_rfl
@[go_sem] theorem plc_123 : placesOf Q 123 = some (#[(0, 1), (1, 1)][·]?) := by kernel_rfl
@[go_sem] theorem zer_123 : zeros Q 123 = some [.val (.int .i64 0), .val (.int .i64 0)] := by kernel_rfl
@[go_sem] theorem lay_127 : lay Q 127 = some (false, 1) := by kernel_rfl
@[go_sem] theorem lay_132 : lay Q 132 = some (true, 8) := by kernel_rfl
@[go_sem] theorem fld_132_0 : fld Q 132 0 = some (0, true, 6) := by kernel_rfl
@[go_sem] theorem fld_132_1 : fld Q 132 1 = some (6, false, 1) := by kernel_rfl
@[go_sem] theorem fld_132_2 : fld Q 132 2 = some (7, false, 1) := by kernel_rfl
@[go_sem] theorem plc_132 : placesOf Q 132 = some (#[(0, 6), (6, 1), (7, 1)][·]?) := by kernel_rfl
@[go_sem] theorem zer_132 : zeros Q 132 = some [.val (.slice none 0 0), .val (.slice none 0 0), .val (.int .i64 0), .val (.int .i64 0), .val (.int .i64 0), .val (.map none), .val (.slice none 0 0), .val (.int .i64 0)] := by kernel_rfl
@[go_sem] theorem lay_137 : lay Q 137 = some (true, 9) := by kernel_rfl
@[go_sem] theorem fld_137_0 : fld Q 137 0 = some (0, true, 6) := by kernel_rfl
@[go_sem] theorem fld_137_1 : fld Q 137 1 = some (6, false, 1) := by kernel_rfl
@[go_sem] theorem fld_137_2 : fld Q 137 2 = some (7, false, 1) := by kernel_rfl
@[go_sem] theorem fld_137_3 : fld Q 137 3 = some (8, false, 1) := by kernel_rfl
@[go_sem] theorem plc_137 : placesOf Q 137 = some (#[(0, 6), (6, 1), (7, 1), (8, 1)][·]?) := by kernel_rfl
@[go_sem] theorem zer_137 : zeros Q 137 = some [.val (.slice none 0 0), .val (.slice none 0 0), .val (.int .i64 0), .val (.int .i64 0), .val (.int .i64 0), .val (.map none), .val (.slice none 0 0), .val (.slice none 0 0), .val (.int .i64 0)] := by kernel_rfl
@[go_sem] theorem lay_141 : lay Q 141 = some (true, 8) := by kernel_rfl
@[go_sem] theorem idx_141 : idx Q 141 = some (some 8, 4, false, 1) := by kernel_rfl
@[go_sem] theorem idx_142 : idx Q 142 = some (some 2, 141, true, 8) := by kernel_rfl
@[go_sem] theorem lay_144 : lay Q 144 = some (true, 23) := by kernel_rfl
@[go_sem] theorem fld_144_0 : fld Q 144 0 = some (0, true, 6) := by kernel_rfl
@[go_sem] theorem fld_144_1 : fld Q 144 1 = some (6, false, 1) := by kernel_rfl
@[go_sem] theorem fld_144_2 : fld Q 144 2 = some (7, true, 16) := by kernel_rfl
@[go_sem] theorem plc_144 : placesOf Q 144 = some (#[(0, 6), (6, 1), (7, 16)][·]?) := by kernel_rfl
@[go_sem] theorem zer_144 : zeros Q 144 = some [.val (.slice none 0 0), .val (.slice none 0 0), .val (.int .i64 0), .val (.int .i64 0), .val (.int .i64 0), .val (.map none), .val (.slice none 0 0), .val (.bool false), .val (.bool false), .val (.bool false), .val (.bool false), .val (.bool false), .val (.bool false), .val (.bool false), .val (.bool false), .val (.bool false), .val (.bool false), .val (.bool false), .val (.bool false), .val (.bool false), .val (.bool false), .val (.bool false), .val (.bool false)] := by kernel_rfl
def qt (n : Nat) : Operand := .tmp n
def qi (n : Int) : Operand := .const (.int .i64 n)
def sop (nb d : Nat) (r : Op) (t : Nat) : SO := ⟨some d, r, t, none, some (nb + d)⟩
def gop (nb d : Nat) (r : Op) (t s : Nat) (w : Bool) : SO := ⟨some d, r, t, some (s, w), some (nb + d)⟩
def nop (r : Op) (t : Nat) : SO := ⟨none, r, t, none, none⟩
def qmv (nb d s t : Nat) : SO := ⟨some d, .move (.tmp s), t, none, some (nb + d)⟩
def qsg (nb d s t : Nat) : SO := ⟨some d, .assign (.tmp s), t, none, some (nb + d)⟩
def qex (nb d s i t : Nat) : SO := ⟨some d, .extract (.tmp s) i, t, none, some (nb + d)⟩
def qld (nb d t a : Nat) : SO := ⟨some d, .load t (.tmp a), t, none, some (nb + d)⟩
def qcl (nb d f : Nat) (a : Array Operand) (ts : Array Nat) (t : Nat) : SO := ⟨some d, .call { callee := .value (.func f), args := a, argTypes := ts }, t, none, some (nb + d)⟩
def qln (nb d : Nat) (a : Array Operand) (ts : Array Nat) (t : Nat) : SO := ⟨some d, .call { callee := .builtin .len, args := a, argTypes := ts }, t, none, some (nb + d)⟩
def qix (nb d t a b u : Nat) : SO := ⟨some d, .indexAddr t (.tmp a) (.tmp b), u, none, some (nb + d)⟩
def qbo (nb d : Nat) (o : BinOp) (t a : Nat) (b : Operand) (t' u : Nat) : SO := ⟨some d, .binOp o t (.tmp a) b t', u, none, some (nb + d)⟩
theorem mix : Q.follows .mixedOrders = true := by kernel_rfl
end S04

