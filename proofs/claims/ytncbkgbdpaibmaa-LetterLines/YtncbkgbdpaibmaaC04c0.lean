/- A part of the proof: C04c0, C04d0. -/
import Derived.Test.YtncbkgbdpaibmaaF04
set_option linter.unusedVariables false
set_option linter.unusedSimpArgs false
set_option maxRecDepth 20000
namespace S04
open Go Abs
noncomputable def c5 (nb : Nat) : SC :=
 .seq (
 .ops [sop nb 3 (.box 25 (qt 0)) 0,
 sop nb 5 (.box 47 (qt 2)) 0,
 sop nb 6 (.assign (.const (.bool false))) 4]) (
 .seq (
 .seq (
 .ops [qld nb 20 25 3,
 qmv nb 21 1 22,
 sop nb 22 (.buildSlice 56 1 #[(0, qt 21)]) 56,
 qcl nb 23 16 #[qt 20, qt 22] #[25, 56] 4]) (
 .cond (qt 23) (
  .seq (
  .ops [qcl nb 24 17 #[] #[] 4,
 qsg nb 6 24 4]) (
  .ret)) (
  .skip))) (
 .seq (
 .opsD [qld nb 25 25 3,
 qcl nb 26 18 #[qt 25] #[25] 25,
 sop nb 27 (.buildSlice 22 0 #[]) 22,
 qmv nb 28 1 22,
 sop nb 29 (.call { callee := .builtin .append, args := #[qt 27, qt 28], argTypes := #[22, 22] }) 22,
 sop nb 30 (.indexAddr 47 (qt 5) (qi 0)) 0,
 qld nb 31 3 30,
 sop nb 32 (.indexAddr 47 (qt 5) (qi 1)) 0,
 qld nb 33 3 32,
 sop nb 7 (.alloc 25) 0,
 nop (.store 25 (qt 7) (qt 26)) 0,
 qsg nb 8 29 22,
 qsg nb 9 31 3,
 qsg nb 10 33 3] [(0, 2), (1, 2), (1, 5), (2, 5), (4, 5), (1, 6), (2, 6), (4, 6), (1, 7), (2, 7), (4, 7), (1, 8), (2, 8), (4, 8), (0, 9), (1, 9), (2, 9), (4, 9), (5, 9), (6, 9), (7, 9), (8, 9), (5, 10), (6, 10), (7, 10), (8, 10), (5, 11), (6, 11), (7, 11), (8, 11), (7, 12), (8, 12)]) (
 .seq (
 .ops [qld nb 35 25 7,
 qmv nb 36 8 22,
 qmv nb 37 10 3,
 qcl nb 38 33 #[qt 35, qt 36, qt 37] #[25, 22, 3] 48,
 qmv nb 34 38 48,
 qex nb 39 34 0 22,
 qex nb 40 34 1 29,
 qsg nb 11 39 22,
 qsg nb 12 40 29]) (
 .seq (
 .ops [qld nb 42 25 7,
 qmv nb 43 8 22,
 qmv nb 44 9 3,
 qmv nb 45 10 3,
 qcl nb 46 34 #[qt 42, qt 43, qt 44, qt 45] #[25, 22, 3, 3] 31,
 qmv nb 41 46 31,
 qex nb 47 41 0 3,
 qex nb 48 41 1 29,
 qsg nb 13 47 3,
 qsg nb 14 48 29]) (
 .seq (
 .seq (
 .ops [qld nb 49 25 7,
 qld nb 50 25 3,
 qcl nb 51 23 #[qt 49, qt 50] #[25, 25] 4,
 sop nb 52 (.unOp .not 4 (qt 51)) 4,
 qmv nb 53 52 4,
 gop nb 54 (.move (qt 8)) 22 53 false,
 gop nb 55 (.move (qt 1)) 22 53 false,
 gop nb 56 (.call { callee := .value (.func 24), args := #[qt 54, qt 55], argTypes := #[22, 22] }) 4 53 false,
 gop nb 57 (.unOp .not 4 (qt 56)) 4 53 false,
 sop nb 58 (.pick (qt 53) (.const (.bool true)) (qt 57)) 4]) (
 .cond (qt 58) (
  .seq (
  .ops [sop nb 6 (.assign (.const (.bool false))) 4]) (
  .ret)) (
  .skip))) (
 .seq (
 .ops [qld nb 59 25 3,
 qmv nb 60 1 22,
 qmv nb 61 10 3,
 qcl nb 62 31 #[qt 59, qt 60, qt 61] #[25, 22, 3] 29,
 sop nb 63 (.buildSlice 22 0 #[]) 22,
 qsg nb 15 62 29,
 qsg nb 16 63 22]) (
 .seq (
 .seq (
 .ops [qmv nb 64 15 29,
 qbo nb 65 .eql 29 64 (qi 0) 29 4]) (
 .cond (qt 65) (
  .seq (
  .ops [qld nb 67 25 3,
 qmv nb 68 1 22,
 qmv nb 69 10 3,
 qcl nb 70 35 #[qt 67, qt 68, qt 69] #[25, 22, 3] 51,
 qmv nb 66 70 51,
 qex nb 71 66 0 22,
 qex nb 72 66 1 4,
 qsg nb 17 71 22,
 qsg nb 18 72 4]) (
  .seq (
  .block 0 (
   .seq (
   .ops [qmv nb 74 18 4,
 sop nb 75 (.unOp .not 4 (qt 74)) 4,
 qsg nb 73 75 4]) (
   .cond (qt 73) (
    .ops [sop nb 15 (.assign (qi 9)) 29]) (
    .seq (
    .ops [qmv nb 77 17 22,
 qln nb 78 #[qt 77] #[22] 3,
 qbo nb 79 .eql 3 78 (qi 0) 3 4,
 qsg nb 76 79 4]) (
    .cond (qt 76) (
     .ops [sop nb 15 (.assign (qi 6)) 29]) (
     .skip)))))) (
  .ops [qmv nb 80 17 22,
 qsg nb 16 80 22]))) (
  .skip))) (
 .seq (
 .seq (
 .ops [qmv nb 81 12 29,
 qmv nb 82 15 29,
 qbo nb 83 .neq 29 81 (qt 82) 29 4,
 qmv nb 84 83 4,
 gop nb 85 (.move (qt 15)) 29 84 false,
 gop nb 86 (.binOp .neq 29 (qt 85) (qi 0) 29) 4 84 false,
 gop nb 87 (.move (qt 86)) 4 84 false,
 gop nb 88 (.move (qt 11)) 22 87 true,
 gop nb 89 (.call { callee := .builtin .len, args := #[qt 88], argTypes := #[22] }) 3 87 true,
 gop nb 90 (.binOp .neq 3 (qt 89) (qi 0) 3) 4 87 true,
 gop nb 91 (.pick (qt 87) (qt 90) (.const (.bool false))) 4 84 false,
 sop nb 92 (.pick (qt 84) (.const (.bool true)) (qt 91)) 4,
 qmv nb 93 92 4,
 gop nb 94 (.move (qt 15)) 29 93 false,
 gop nb 95 (.binOp .eql 29 (qt 94) (qi 0) 29) 4 93 false,
 gop nb 96 (.move (qt 95)) 4 93 false,
 gop nb 97 (.move (qt 11)) 22 96 true,
 gop nb 98 (.move (qt 16)) 22 96 true,
 gop nb 99 (.call { callee := .value (.func 24), args := #[qt 97, qt 98], argTypes := #[22, 22] }) 4 96 true,
 gop nb 100 (.unOp .not 4 (qt 99)) 4 96 true,
 gop nb 101 (.pick (qt 96) (qt 100) (.const (.bool false))) 4 93 false,
 sop nb 102 (.pick (qt 93) (.const (.bool true)) (qt 101)) 4]) (
 .cond (qt 102) (
  .seq (
  .ops [sop nb 6 (.assign (.const (.bool false))) 4]) (
  .ret)) (
  .skip))) (
 .seq (
 .ops [qld nb 103 25 3,
 qmv nb 104 1 22,
 qcl nb 105 31 #[qt 103, qt 104, qi 1] #[25, 22, 3] 29,
 qsg nb 15 105 29]) (
 .seq (
 .seq (
 .ops [qmv nb 106 15 29,
 qbo nb 107 .eql 29 106 (qi 0) 29 4,
 qmv nb 108 107 4,
 gop nb 109 (.move (qt 9)) 3 108 true,
 gop nb 110 (.move (qt 1)) 22 108 true,
 gop nb 111 (.call { callee := .builtin .len, args := #[qt 110], argTypes := #[22] }) 3 108 true,
 gop nb 112 (.binOp .sub 3 (qt 111) (qi 1) 3) 3 108 true,
 gop nb 113 (.call { callee := .value (.func 36), args := #[qt 109, qi 0, qt 112], argTypes := #[3, 3, 3] }) 4 108 true,
 gop nb 114 (.unOp .not 4 (qt 113)) 4 108 true,
 sop nb 115 (.pick (qt 108) (qt 114) (.const (.bool false))) 4]) (
 .cond (qt 115) (
  .ops [sop nb 15 (.assign (qi 7)) 29]) (
  .skip))) (
 .seq (
 .seq (
 .ops [qmv nb 116 15 29,
 qbo nb 117 .eql 29 116 (qi 0) 29 4,
 qmv nb 118 117 4,
 gop nb 119 (.move (qt 10)) 3 118 true,
 gop nb 120 (.call { callee := .value (.func 36), args := #[qt 119, qi 1, qi 400], argTypes := #[3, 3, 3] }) 4 118 true,
 gop nb 121 (.unOp .not 4 (qt 120)) 4 118 true,
 sop nb 122 (.pick (qt 118) (qt 121) (.const (.bool false))) 4]) (
 .cond (qt 122) (
  .ops [sop nb 15 (.assign (qi 3)) 29]) (
  .skip))) (
 .seq (
 .ops [sop nb 19 (.assign (qi 0)) 3]) (
 .seq (
 .seq (
 .ops [qmv nb 123 15 29,
 qbo nb 124 .eql 29 123 (qi 0) 29 4]) (
 .cond (qt 124) (
  .seq (
  .ops [qld nb 125 25 3,
 qmv nb 126 1 22,
 qmv nb 127 9 3,
 qmv nb 128 10 3,
 qcl nb 129 37 #[qt 125, qt 126, qt 127, qt 128] #[25, 22, 3, 3] 3,
 qsg nb 19 129 3]) (
  .seq (
  .ops [qmv nb 130 19 3,
 qbo nb 131 .eql 3 130 (qi 0) 3 4]) (
  .cond (qt 131) (
   .ops [sop nb 15 (.assign (qi 8)) 29]) (
   .skip)))) (
  .skip))) (
 .seq (
 .seq (
 .ops [qmv nb 132 15 29,
 qbo nb 133 .neq 29 132 (qi 0) 29 4]) (
 .cond (qt 133) (
  .seq (
  .ops [qmv nb 134 14 29,
 qmv nb 135 15 29,
 qbo nb 136 .eql 29 134 (qt 135) 29 4,
 qmv nb 137 136 4,
 gop nb 138 (.move (qt 13)) 3 137 true,
 gop nb 139 (.binOp .eql 3 (qt 138) (qi 0) 3) 4 137 true,
 sop nb 140 (.pick (qt 137) (qt 139) (.const (.bool false))) 4,
 qmv nb 141 140 4,
 gop nb 142 (.call { callee := .value (.func 17), args := #[], argTypes := #[] }) 4 141 true,
 sop nb 143 (.pick (qt 141) (qt 142) (.const (.bool false))) 4,
 qsg nb 6 143 4]) (
  .ret)) (
  .skip))) (
 .seq (
 .ops [qmv nb 144 14 29,
 qbo nb 145 .eql 29 144 (qi 0) 29 4,
 qmv nb 146 145 4,
 gop nb 147 (.move (qt 13)) 3 146 true,
 gop nb 148 (.move (qt 19)) 3 146 true,
 gop nb 149 (.binOp .eql 3 (qt 147) (qt 148) 3) 4 146 true,
 sop nb 150 (.pick (qt 146) (qt 149) (.const (.bool false))) 4,
 qmv nb 151 150 4,
 gop nb 152 (.call { callee := .value (.func 17), args := #[], argTypes := #[] }) 4 151 true,
 sop nb 153 (.pick (qt 151) (qt 152) (.const (.bool false))) 4,
 qsg nb 6 153 4]) (
 .ret))))))))))))))))
theorem k5 (nb : Nat) : sk nb Go.Proofs.Try.f5.ntmps (Go.Proofs.Try.f5.body.getD .skip) = some (c5 nb) := by kernel_rfl
theorem w5 {a : List Arg} {r : RV} (h : W Q (c5 0) [] ⟨ρ0 (a.map fun a => a.m.lv), h0⟩ (retG Q Go.Proofs.Try.f5.results.toList (retF r))) (l : Nat.ble a.length Go.Proofs.Try.f5.ntmps = true := by kernel_rfl) : Fn Q 5 a r := fn_intro Go.Proofs.Try.func5 rfl (by kernel_rfl) mix (k5 0) (Nat.le_of_ble_eq_true l) h
end S04

namespace S04
open Go Abs
noncomputable def c6 (nb : Nat) : SC :=
 .seq (
 .ops [sop nb 3 (.box 25 (qt 0)) 0,
 sop nb 6 (.assign (.const (.bool false))) 4]) (
 .seq (
 .seq (
 .ops [qld nb 16 25 3,
 qmv nb 17 1 56,
 qcl nb 18 16 #[qt 16, qt 17] #[25, 56] 4]) (
 .cond (qt 18) (
  .seq (
  .ops [qcl nb 19 17 #[] #[] 4,
 qsg nb 6 19 4]) (
  .ret)) (
  .skip))) (
 .seq (
 .ops [qld nb 20 25 3,
 qcl nb 21 18 #[qt 20] #[25] 25,
 qmv nb 22 1 56,
 qcl nb 23 38 #[qt 22] #[56] 56,
 sop nb 7 (.alloc 25) 0,
 nop (.store 25 (qt 7) (qt 21)) 0,
 qsg nb 8 23 56]) (
 .seq (
 .ops [qld nb 25 25 7,
 qmv nb 26 8 56,
 qmv nb 27 2 3,
 qcl nb 28 39 #[qt 25, qt 26, qt 27] #[25, 56, 3] 33,
 qmv nb 24 28 33,
 qex nb 29 24 0 22,
 qex nb 30 24 1 3,
 qex nb 31 24 2 29,
 qsg nb 9 29 22,
 qsg nb 10 30 3,
 qsg nb 11 31 29]) (
 .seq (
 .seq (
 .ops [qld nb 32 25 7,
 qld nb 33 25 3,
 qcl nb 34 23 #[qt 32, qt 33] #[25, 25] 4,
 sop nb 35 (.unOp .not 4 (qt 34)) 4,
 qmv nb 36 35 4,
 gop nb 37 (.move (qt 8)) 56 36 false,
 gop nb 38 (.move (qt 1)) 56 36 false,
 gop nb 39 (.call { callee := .value (.func 40), args := #[qt 37, qt 38], argTypes := #[56, 56] }) 4 36 false,
 gop nb 40 (.unOp .not 4 (qt 39)) 4 36 false,
 sop nb 41 (.pick (qt 36) (.const (.bool true)) (qt 40)) 4]) (
 .cond (qt 41) (
  .seq (
  .ops [sop nb 6 (.assign (.const (.bool false))) 4]) (
  .ret)) (
  .skip))) (
 .seq (
 .ops [qld nb 42 25 3,
 qcl nb 43 22 #[qt 42] #[25] 29,
 qsg nb 12 43 29]) (
 .seq (
 .seq (
 .ops [qmv nb 44 12 29,
 qbo nb 45 .eql 29 44 (qi 0) 29 4,
 qmv nb 46 45 4,
 gop nb 47 (.move (qt 1)) 56 46 true,
 gop nb 48 (.call { callee := .builtin .len, args := #[qt 47], argTypes := #[56] }) 3 46 true,
 gop nb 49 (.binOp .eql 3 (qt 48) (qi 0) 3) 4 46 true,
 sop nb 50 (.pick (qt 46) (qt 49) (.const (.bool false))) 4]) (
 .cond (qt 50) (
  .ops [sop nb 12 (.assign (qi 7)) 29]) (
  .skip))) (
 .seq (
 .seq (
 .ops [qmv nb 51 12 29,
 qbo nb 52 .eql 29 51 (qi 0) 29 4,
 qmv nb 53 52 4,
 gop nb 54 (.move (qt 1)) 56 53 true,
 gop nb 55 (.call { callee := .builtin .len, args := #[qt 54], argTypes := #[56] }) 3 53 true,
 gop nb 56 (.binOp .gtr 3 (qt 55) (qi 5) 3) 4 53 true,
 sop nb 57 (.pick (qt 53) (qt 56) (.const (.bool false))) 4]) (
 .cond (qt 57) (
  .ops [sop nb 12 (.assign (qi 5)) 29]) (
  .skip))) (
 .seq (
 .seq (
 .ops [qmv nb 58 12 29,
 qbo nb 59 .eql 29 58 (qi 0) 29 4]) (
 .cond (qt 59) (
  .ops [qld nb 60 25 3,
 qmv nb 61 1 56,
 qcl nb 62 41 #[qt 60, qt 61] #[25, 56] 29,
 qsg nb 12 62 29]) (
  .skip))) (
 .seq (
 .seq (
 .ops [qmv nb 63 12 29,
 qbo nb 64 .eql 29 63 (qi 0) 29 4,
 qmv nb 65 64 4,
 gop nb 66 (.move (qt 2)) 3 65 true,
 gop nb 67 (.call { callee := .value (.func 36), args := #[qt 66, qi 1, qi 400], argTypes := #[3, 3, 3] }) 4 65 true,
 gop nb 68 (.unOp .not 4 (qt 67)) 4 65 true,
 sop nb 69 (.pick (qt 65) (qt 68) (.const (.bool false))) 4]) (
 .cond (qt 69) (
  .ops [sop nb 12 (.assign (qi 3)) 29]) (
  .skip))) (
 .seq (
 .seq (
 .ops [sop nb 13 (.assign (qi 0)) 3]) (
 .block 0 (
  .loop (
   .seq (
   .seq (
   .ops [qmv nb 70 13 3,
 qmv nb 71 1 56,
 qln nb 72 #[qt 71] #[56] 3,
 qbo nb 73 .lss 3 70 (qt 72) 3 4,
 qmv nb 74 73 4,
 gop nb 75 (.move (qt 12)) 29 74 true,
 gop nb 76 (.binOp .eql 29 (qt 75) (qi 0) 29) 4 74 true,
 sop nb 77 (.pick (qt 74) (qt 76) (.const (.bool false))) 4]) (
   .cond (qt 77) (
    .skip) (
    .exit 0))) (
   .seq (
   .block 1 (
    .seq (
    .ops [qld nb 80 25 3,
 qmv nb 81 1 56,
 qmv nb 82 13 3,
 qix nb 83 56 81 82 0,
 qld nb 84 22 83,
 qcl nb 85 26 #[qt 80, qt 84] #[25, 22] 3,
 qmv nb 86 2 3,
 qbo nb 87 .gtr 3 85 (qt 86) 3 4]) (
    .cond (qt 87) (
     .ops [sop nb 12 (.assign (qi 8)) 29]) (
     .skip)))) (
   .ops [qmv nb 78 13 3,
 qbo nb 79 .add 3 78 (qi 1) 3 3,
 qsg nb 13 79 3])))))) (
 .seq (
 .seq (
 .ops [qmv nb 88 12 29,
 qbo nb 89 .neq 29 88 (qi 0) 29 4]) (
 .cond (qt 89) (
  .seq (
  .ops [qmv nb 90 11 29,
 qmv nb 91 12 29,
 qbo nb 92 .eql 29 90 (qt 91) 29 4,
 qmv nb 93 92 4,
 gop nb 94 (.move (qt 9)) 22 93 true,
 gop nb 95 (.call { callee := .builtin .len, args := #[qt 94], argTypes := #[22] }) 3 93 true,
 gop nb 96 (.binOp .eql 3 (qt 95) (qi 0) 3) 4 93 true,
 sop nb 97 (.pick (qt 93) (qt 96) (.const (.bool false))) 4,
 qmv nb 98 97 4,
 gop nb 99 (.move (qt 10)) 3 98 true,
 gop nb 100 (.binOp .eql 3 (qt 99) (qi 0) 3) 4 98 true,
 sop nb 101 (.pick (qt 98) (qt 100) (.const (.bool false))) 4,
 qmv nb 102 101 4,
 gop nb 103 (.call { callee := .value (.func 17), args := #[], argTypes := #[] }) 4 102 true,
 sop nb 104 (.pick (qt 102) (qt 103) (.const (.bool false))) 4,
 qsg nb 6 104 4]) (
  .ret)) (
  .skip))) (
 .seq (
 .ops [qld nb 106 25 3,
 qmv nb 107 1 56,
 qmv nb 108 2 3,
 qcl nb 109 42 #[qt 106, qt 107, qt 108] #[25, 56, 3] 44,
 qmv nb 105 109 44,
 qex nb 110 105 0 22,
 qex nb 111 105 1 3,
 qsg nb 14 110 22,
 qsg nb 15 111 3]) (
 .seq (
 .ops [qmv nb 112 11 29,
 qbo nb 113 .eql 29 112 (qi 0) 29 4,
 qmv nb 114 113 4,
 gop nb 115 (.move (qt 9)) 22 114 true,
 gop nb 116 (.move (qt 14)) 22 114 true,
 gop nb 117 (.call { callee := .value (.func 24), args := #[qt 115, qt 116], argTypes := #[22, 22] }) 4 114 true,
 sop nb 118 (.pick (qt 114) (qt 117) (.const (.bool false))) 4,
 qmv nb 119 118 4,
 gop nb 120 (.move (qt 10)) 3 119 true,
 gop nb 121 (.move (qt 15)) 3 119 true,
 gop nb 122 (.binOp .eql 3 (qt 120) (qt 121) 3) 4 119 true,
 sop nb 123 (.pick (qt 119) (qt 122) (.const (.bool false))) 4,
 qmv nb 124 123 4,
 gop nb 125 (.call { callee := .value (.func 17), args := #[], argTypes := #[] }) 4 124 true,
 sop nb 126 (.pick (qt 124) (qt 125) (.const (.bool false))) 4,
 qsg nb 6 126 4]) (
 .ret))))))))))))))
@[go_sem] theorem rs6 : Go.Proofs.Try.f6.results.toList = [.tmp 6] := by kernel_rfl
theorem k6 (nb : Nat) : sk nb Go.Proofs.Try.f6.ntmps (Go.Proofs.Try.f6.body.getD .skip) = some (c6 nb) := by kernel_rfl
theorem w6 {a : List Arg} {r : RV} (h : W Q (c6 0) [] ⟨ρ0 (a.map fun a => a.m.lv), h0⟩ (retG Q Go.Proofs.Try.f6.results.toList (retF r))) (l : Nat.ble a.length Go.Proofs.Try.f6.ntmps = true := by kernel_rfl) : Fn Q 6 a r := fn_intro Go.Proofs.Try.func6 rfl (by kernel_rfl) mix (k6 0) (Nat.le_of_ble_eq_true l) h
end S04

