/- A part of the proof: C04b0, C04c0. -/
import Derived.Test.YtncbkgbdpaibmaaF04
set_option linter.unusedVariables false
set_option linter.unusedSimpArgs false
set_option maxRecDepth 20000
namespace S04
open Go Abs
noncomputable def c4 (nb : Nat) : SC :=
 .seq (
 .ops [sop nb 3 (.box 25 (qt 0)) 0,
 sop nb 6 (.assign (.const (.bool false))) 4]) (
 .seq (
 .seq (
 .ops [qld nb 15 25 3,
 qmv nb 16 1 22,
 sop nb 17 (.buildSlice 56 1 #[(0, qt 16)]) 56,
 qcl nb 18 16 #[qt 15, qt 17] #[25, 56] 4]) (
 .cond (qt 18) (
  .seq (
  .ops [qcl nb 19 17 #[] #[] 4,
 qsg nb 6 19 4]) (
  .ret)) (
  .skip))) (
 .seq (
 .ops [qld nb 20 25 3,
 qcl nb 21 18 #[qt 20] #[25] 25,
 sop nb 22 (.buildSlice 22 0 #[]) 22,
 qmv nb 23 1 22,
 sop nb 24 (.call { callee := .builtin .append, args := #[qt 22, qt 23], argTypes := #[22, 22] }) 22,
 sop nb 7 (.alloc 25) 0,
 nop (.store 25 (qt 7) (qt 21)) 0,
 qsg nb 8 24 22]) (
 .seq (
 .ops [qld nb 26 25 7,
 qmv nb 27 8 22,
 qmv nb 28 2 3,
 qcl nb 29 30 #[qt 26, qt 27, qt 28] #[25, 22, 3] 33,
 qmv nb 25 29 33,
 qex nb 30 25 0 22,
 qex nb 31 25 1 3,
 qex nb 32 25 2 29,
 qsg nb 9 30 22,
 qsg nb 10 31 3,
 qsg nb 11 32 29]) (
 .seq (
 .seq (
 .ops [qld nb 33 25 7,
 qld nb 34 25 3,
 qcl nb 35 23 #[qt 33, qt 34] #[25, 25] 4,
 sop nb 36 (.unOp .not 4 (qt 35)) 4,
 qmv nb 37 36 4,
 gop nb 38 (.move (qt 8)) 22 37 false,
 gop nb 39 (.move (qt 1)) 22 37 false,
 gop nb 40 (.call { callee := .value (.func 24), args := #[qt 38, qt 39], argTypes := #[22, 22] }) 4 37 false,
 gop nb 41 (.unOp .not 4 (qt 40)) 4 37 false,
 sop nb 42 (.pick (qt 37) (.const (.bool true)) (qt 41)) 4]) (
 .cond (qt 42) (
  .seq (
  .ops [sop nb 6 (.assign (.const (.bool false))) 4]) (
  .ret)) (
  .skip))) (
 .seq (
 .ops [qld nb 43 25 3,
 qmv nb 44 1 22,
 qmv nb 45 2 3,
 qcl nb 46 31 #[qt 43, qt 44, qt 45] #[25, 22, 3] 29,
 qsg nb 12 46 29]) (
 .seq (
 .seq (
 .ops [qmv nb 47 12 29,
 qbo nb 48 .eql 29 47 (qi 0) 29 4,
 qmv nb 49 48 4,
 gop nb 50 (.load 25 (qt 3)) 25 49 true,
 gop nb 51 (.move (qt 1)) 22 49 true,
 gop nb 52 (.call { callee := .value (.func 26), args := #[qt 50, qt 51], argTypes := #[25, 22] }) 3 49 true,
 gop nb 53 (.move (qt 2)) 3 49 true,
 gop nb 54 (.binOp .gtr 3 (qt 52) (qt 53) 3) 4 49 true,
 sop nb 55 (.pick (qt 49) (qt 54) (.const (.bool false))) 4]) (
 .cond (qt 55) (
  .ops [sop nb 12 (.assign (qi 8)) 29]) (
  .skip))) (
 .seq (
 .seq (
 .ops [qmv nb 56 12 29,
 qbo nb 57 .neq 29 56 (qi 0) 29 4]) (
 .cond (qt 57) (
  .seq (
  .ops [qmv nb 58 11 29,
 qmv nb 59 12 29,
 qbo nb 60 .eql 29 58 (qt 59) 29 4,
 qmv nb 61 60 4,
 gop nb 62 (.move (qt 9)) 22 61 true,
 gop nb 63 (.call { callee := .builtin .len, args := #[qt 62], argTypes := #[22] }) 3 61 true,
 gop nb 64 (.binOp .eql 3 (qt 63) (qi 0) 3) 4 61 true,
 sop nb 65 (.pick (qt 61) (qt 64) (.const (.bool false))) 4,
 qmv nb 66 65 4,
 gop nb 67 (.move (qt 10)) 3 66 true,
 gop nb 68 (.binOp .eql 3 (qt 67) (qi 0) 3) 4 66 true,
 sop nb 69 (.pick (qt 66) (qt 68) (.const (.bool false))) 4,
 qmv nb 70 69 4,
 gop nb 71 (.call { callee := .value (.func 17), args := #[], argTypes := #[] }) 4 70 true,
 sop nb 72 (.pick (qt 70) (qt 71) (.const (.bool false))) 4,
 qsg nb 6 72 4]) (
  .ret)) (
  .skip))) (
 .seq (
 .seq (
 .ops [qmv nb 73 1 22,
 qln nb 74 #[qt 73] #[22] 3,
 qbo nb 75 .eql 3 74 (qi 1) 3 4]) (
 .cond (qt 75) (
  .seq (
  .ops [qmv nb 76 11 29,
 qbo nb 77 .eql 29 76 (qi 0) 29 4,
 qmv nb 78 77 4,
 gop nb 79 (.move (qt 9)) 22 78 true,
 gop nb 80 (.call { callee := .builtin .len, args := #[qt 79], argTypes := #[22] }) 3 78 true,
 gop nb 81 (.binOp .eql 3 (qt 80) (qi 0) 3) 4 78 true,
 sop nb 82 (.pick (qt 78) (qt 81) (.const (.bool false))) 4,
 qmv nb 83 82 4,
 gop nb 84 (.move (qt 10)) 3 83 true,
 gop nb 85 (.binOp .eql 3 (qt 84) (qi 0) 3) 4 83 true,
 sop nb 86 (.pick (qt 83) (qt 85) (.const (.bool false))) 4,
 qmv nb 87 86 4,
 gop nb 88 (.call { callee := .value (.func 17), args := #[], argTypes := #[] }) 4 87 true,
 sop nb 89 (.pick (qt 87) (qt 88) (.const (.bool false))) 4,
 qsg nb 6 89 4]) (
  .ret)) (
  .skip))) (
 .seq (
 .ops [qld nb 91 25 3,
 qmv nb 92 1 22,
 qmv nb 93 2 3,
 qcl nb 94 32 #[qt 91, qt 92, qt 93] #[25, 22, 3] 44,
 qmv nb 90 94 44,
 qex nb 95 90 0 22,
 qex nb 96 90 1 3,
 qsg nb 13 95 22,
 qsg nb 14 96 3]) (
 .seq (
 .ops [qmv nb 97 11 29,
 qbo nb 98 .eql 29 97 (qi 0) 29 4,
 qmv nb 99 98 4,
 gop nb 100 (.move (qt 9)) 22 99 true,
 gop nb 101 (.move (qt 13)) 22 99 true,
 gop nb 102 (.call { callee := .value (.func 24), args := #[qt 100, qt 101], argTypes := #[22, 22] }) 4 99 true,
 sop nb 103 (.pick (qt 99) (qt 102) (.const (.bool false))) 4,
 qmv nb 104 103 4,
 gop nb 105 (.move (qt 10)) 3 104 true,
 gop nb 106 (.move (qt 14)) 3 104 true,
 gop nb 107 (.binOp .eql 3 (qt 105) (qt 106) 3) 4 104 true,
 sop nb 108 (.pick (qt 104) (qt 107) (.const (.bool false))) 4,
 qmv nb 109 108 4,
 gop nb 110 (.call { callee := .value (.func 17), args := #[], argTypes := #[] }) 4 109 true,
 sop nb 111 (.pick (qt 109) (qt 110) (.const (.bool false))) 4,
 qsg nb 6 111 4]) (
 .ret)))))))))))
theorem k4 (nb : Nat) : sk nb Go.Proofs.Try.f4.ntmps (Go.Proofs.Try.f4.body.getD .skip) = some (c4 nb) := by kernel_rfl
theorem w4 {a : List Arg} {r : RV} (h : W Q (c4 0) [] ⟨ρ0 (a.map fun a => a.m.lv), h0⟩ (retG Q Go.Proofs.Try.f4.results.toList (retF r))) (l : Nat.ble a.length Go.Proofs.Try.f4.ntmps = true := by kernel_rfl) : Fn Q 4 a r := fn_intro Go.Proofs.Try.func4 rfl (by kernel_rfl) mix (k4 0) (Nat.le_of_ble_eq_true l) h
end S04

namespace S04
open Go Abs
noncomputable def c5 (nb : Nat) : SC :=
 .seq (
 .ops [sop nb 3 (.box 25 (qt 0)) 0,
 sop nb 5 (.box 47 (qt 2)) 0,
 sop nb 6 (.assign (.const (.bool false))) 4]) (
 .seq (
 .seq (
 .ops [qld nb 20 25 3,
 qmv nb 21 1 22,
 sop nb 22 (.buildSlice 56 1 #[(0, qt 21)]) 56,
 qcl nb 23 16 #[qt 20, qt 22] #[25, 56] 4]) (
 .cond (qt 23) (
  .seq (
  .ops [qcl nb 24 17 #[] #[] 4,
 qsg nb 6 24 4]) (
  .ret)) (
  .skip))) (
 .seq (
 .opsD [qld nb 25 25 3,
 qcl nb 26 18 #[qt 25] #[25] 25,
 sop nb 27 (.buildSlice 22 0 #[]) 22,
 qmv nb 28 1 22,
 sop nb 29 (.call { callee := .builtin .append, args := #[qt 27, qt 28], argTypes := #[22, 22] }) 22,
 sop nb 30 (.indexAddr 47 (qt 5) (qi 0)) 0,
 qld nb 31 3 30,
 sop nb 32 (.indexAddr 47 (qt 5) (qi 1)) 0,
 qld nb 33 3 32,
 sop nb 7 (.alloc 25) 0,
 nop (.store 25 (qt 7) (qt 26)) 0,
 qsg nb 8 29 22,
 qsg nb 9 31 3,
 qsg nb 10 33 3] [(0, 2), (1, 2), (1, 5), (2, 5), (4, 5), (1, 6), (2, 6), (4, 6), (1, 7), (2, 7), (4, 7), (1, 8), (2, 8), (4, 8), (0, 9), (1, 9), (2, 9), (4, 9), (5, 9), (6, 9), (7, 9), (8, 9), (5, 10), (6, 10), (7, 10), (8, 10), (5, 11), (6, 11), (7, 11), (8, 11), (7, 12), (8, 12)]) (
 .seq (
 .ops [qld nb 35 25 7,
 qmv nb 36 8 22,
 qmv nb 37 10 3,
 qcl nb 38 33 #[qt 35, qt 36, qt 37] #[25, 22, 3] 48,
 qmv nb 34 38 48,
 qex nb 39 34 0 22,
 qex nb 40 34 1 29,
 qsg nb 11 39 22,
 qsg nb 12 40 29]) (
 .seq (
 .ops [qld nb 42 25 7,
 qmv nb 43 8 22,
 qmv nb 44 9 3,
 qmv nb 45 10 3,
 qcl nb 46 34 #[qt 42, qt 43, qt 44, qt 45] #[25, 22, 3, 3] 31,
 qmv nb 41 46 31,
 qex nb 47 41 0 3,
 qex nb 48 41 1 29,
 qsg nb 13 47 3,
 qsg nb 14 48 29]) (
 .seq (
 .seq (
 .ops [qld nb 49 25 7,
 qld nb 50 25 3,
 qcl nb 51 23 #[qt 49, qt 50] #[25, 25] 4,
 sop nb 52 (.unOp .not 4 (qt 51)) 4,
 qmv nb 53 52 4,
 gop nb 54 (.move (qt 8)) 22 53 false,
 gop nb 55 (.move (qt 1)) 22 53 false,
 gop nb 56 (.call { callee := .value (.func 24), args := #[qt 54, qt 55], argTypes := #[22, 22] }) 4 53 false,
 gop nb 57 (.unOp .not 4 (qt 56)) 4 53 false,
 sop nb 58 (.pick (qt 53) (.const (.bool true)) (qt 57)) 4]) (
 .cond (qt 58) (
  .seq (
  .ops [sop nb 6 (.assign (.const (.bool false))) 4]) (
  .ret)) (
  .skip))) (
 .seq (
 .ops [qld nb 59 25 3,
 qmv nb 60 1 22,
 qmv nb 61 10 3,
 qcl nb 62 31 #[qt 59, qt 60, qt 61] #[25, 22, 3] 29,
 sop nb 63 (.buildSlice 22 0 #[]) 22,
 qsg nb 15 62 29,
 qsg nb 16 63 22]) (
 .seq (
 .seq (
 .ops [qmv nb 64 15 29,
 qbo nb 65 .eql 29 64 (qi 0) 29 4]) (
 .cond (qt 65) (
  .seq (
  .ops [qld nb 67 25 3,
 qmv nb 68 1 22,
 qmv nb 69 10 3,
 qcl nb 70 35 #[qt 67, qt 68, qt 69] #[25, 22, 3] 51,
 qmv nb 66 70 51,
 qex nb 71 66 0 22,
 qex nb 72 66 1 4,
 qsg nb 17 71 22,
 qsg nb 18 72 4]) (
  .seq (
  .block 0 (
   .seq (
   .ops [qmv nb 74 18 4,
 sop nb 75 (.unOp .not 4 (qt 74)) 4,
 qsg nb 73 75 4]) (
   .cond (qt 73) (
    .ops [sop nb 15 (.assign (qi 9)) 29]) (
    .seq (
    .ops [qmv nb 77 17 22,
 qln nb 78 #[qt 77] #[22] 3,
 qbo nb 79 .eql 3 78 (qi 0) 3 4,
 qsg nb 76 79 4]) (
    .cond (qt 76) (
     .ops [sop nb 15 (.assign (qi 6)) 29]) (
     .skip)))))) (
  .ops [qmv nb 80 17 22,
 qsg nb 16 80 22]))) (
  .skip))) (
 .seq (
 .seq (
 .ops [qmv nb 81 12 29,
 qmv nb 82 15 29,
 qbo nb 83 .neq 29 81 (qt 82) 29 4,
 qmv nb 84 83 4,
 gop nb 85 (.move (qt 15)) 29 84 false,
 gop nb 86 (.binOp .neq 29 (qt 85) (qi 0) 29) 4 84 false,
 gop nb 87 (.move (qt 86)) 4 84 false,
 gop nb 88 (.move (qt 11)) 22 87 true,
 gop nb 89 (.call { callee := .builtin .len, args := #[qt 88], argTypes := #[22] }) 3 87 true,
 gop nb 90 (.binOp .neq 3 (qt 89) (qi 0) 3) 4 87 true,
 gop nb 91 (.pick (qt 87) (qt 90) (.const (.bool false))) 4 84 false,
 sop nb 92 (.pick (qt 84) (.const (.bool true)) (qt 91)) 4,
 qmv nb 93 92 4,
 gop nb 94 (.move (qt 15)) 29 93 false,
 gop nb 95 (.binOp .eql 29 (qt 94) (qi 0) 29) 4 93 false,
 gop nb 96 (.move (qt 95)) 4 93 false,
 gop nb 97 (.move (qt 11)) 22 96 true,
 gop nb 98 (.move (qt 16)) 22 96 true,
 gop nb 99 (.call { callee := .value (.func 24), args := #[qt 97, qt 98], argTypes := #[22, 22] }) 4 96 true,
 gop nb 100 (.unOp .not 4 (qt 99)) 4 96 true,
 gop nb 101 (.pick (qt 96) (qt 100) (.const (.bool false))) 4 93 false,
 sop nb 102 (.pick (qt 93) (.const (.bool true)) (qt 101)) 4]) (
 .cond (qt 102) (
  .seq (
  .ops [sop nb 6 (.assign (.const (.bool false))) 4]) (
  .ret)) (
  .skip))) (
 .seq (
 .ops [qld nb 103 25 3,
 qmv nb 104 1 22,
 qcl nb 105 31 #[qt 103, qt 104, qi 1] #[25, 22, 3] 29,
 qsg nb 15 105 29]) (
 .seq (
 .seq (
 .ops [qmv nb 106 15 29,
 qbo nb 107 .eql 29 106 (qi 0) 29 4,
 qmv nb 108 107 4,
 gop nb 109 (.move (qt 9)) 3 108 true,
 gop nb 110 (.move (qt 1)) 22 108 true,
 gop nb 111 (.call { callee := .builtin .len, args := #[qt 110], argTypes := #[22] }) 3 108 true,
 gop nb 112 (.binOp .sub 3 (qt 111) (qi 1) 3) 3 108 true,
 gop nb 113 (.call { callee := .value (.func 36), args := #[qt 109, qi 0, qt 112], argTypes := #[3, 3, 3] }) 4 108 true,
 gop nb 114 (.unOp .not 4 (qt 113)) 4 108 true,
 sop nb 115 (.pick (qt 108) (qt 114) (.const (.bool false))) 4]) (
 .cond (qt 115) (
  .ops [sop nb 15 (.assign (qi 7)) 29]) (
  .skip))) (
 .seq (
 .seq (
 .ops [qmv nb 116 15 29,
 qbo nb 117 .eql 29 116 (qi 0) 29 4,
 qmv nb 118 117 4,
 gop nb 119 (.move (qt 10)) 3 118 true,
 gop nb 120 (.call { callee := .value (.func 36), args := #[qt 119, qi 1, qi 400], argTypes := #[3, 3, 3] }) 4 118 true,
 gop nb 121 (.unOp .not 4 (qt 120)) 4 118 true,
 sop nb 122 (.pick (qt 118) (qt 121) (.const (.bool false))) 4]) (
 .cond (qt 122) (
  .ops [sop nb 15 (.assign (qi 3)) 29]) (
  .skip))) (
 .seq (
 .ops [sop nb 19 (.assign (qi 0)) 3]) (
 .seq (
 .seq (
 .ops [qmv nb 123 15 29,
 qbo nb 124 .eql 29 123 (qi 0) 29 4]) (
 .cond (qt 124) (
  .seq (
  .ops [qld nb 125 25 3,
 qmv nb 126 1 22,
 qmv nb 127 9 3,
 qmv nb 128 10 3,
 qcl nb 129 37 #[qt 125, qt 126, qt 127, qt 128] #[25, 22, 3, 3] 3,
 qsg nb 19 129 3]) (
  .seq (
  .ops [qmv nb 130 19 3,
 qbo nb 131 .eql 3 130 (qi 0) 3 4]) (
  .cond (qt 131) (
   .ops [sop nb 15 (.assign (qi 8)) 29]) (
   .skip)))) (
  .skip))) (
 .seq (
 .seq (
 .ops [qmv nb 132 15 29,
 qbo nb 133 .neq 29 132 (qi 0) 29 4]) (
 .cond (qt 133) (
  .seq (
  .ops [qmv nb 134 14 29,
 qmv nb 135 15 29,
 qbo nb 136 .eql 29 134 (qt 135) 29 4,
 qmv nb 137 136 4,
 gop nb 138 (.move (qt 13)) 3 137 true,
 gop nb 139 (.binOp .eql 3 (qt 138) (qi 0) 3) 4 137 true,
 sop nb 140 (.pick (qt 137) (qt 139) (.const (.bool false))) 4,
 qmv nb 141 140 4,
 gop nb 142 (.call { callee := .value (.func 17), args := #[], argTypes := #[] }) 4 141 true,
 sop nb 143 (.pick (qt 141) (qt 142) (.const (.bool false))) 4,
 qsg nb 6 143 4]) (
  .ret)) (
  .skip))) (
 .seq (
 .ops [qmv nb 144 14 29,
 qbo nb 145 .eql 29 144 (qi 0) 29 4,
 qmv nb 146 145 4,
 gop nb 147 (.move (qt 13)) 3 146 true,
 gop nb 148 (.move (qt 19)) 3 146 true,
 gop nb 149 (.binOp .eql 3 (qt 147) (qt 148) 3) 4 146 true,
 sop nb 150 (.pick (qt 146) (qt 149) (.const (.bool false))) 4,
 qmv nb 151 150 4,
 gop nb 152 (.call { callee := .value (.func 17), args := #[], argTypes := #[] }) 4 151 true,
 sop nb 153 (.pick (qt 151) (qt 152) (.const (.bool false))) 4,
 qsg nb 6 153 4]) (
 .ret))))))))))))))))
theorem k5 (nb : Nat) : sk nb Go.Proofs.Try.f5.ntmps (Go.Proofs.Try.f5.body.getD .skip) = some (c5 nb) := by kernel_rfl
theorem w5 {a : List Arg} {r : RV} (h : W Q (c5 0) [] ⟨ρ0 (a.map fun a => a.m.lv), h0⟩ (retG Q Go.Proofs.Try.f5.results.toList (retF r))) (l : Nat.ble a.length Go.Proofs.Try.f5.ntmps = true := by kernel_rfl) : Fn Q 5 a r := fn_intro Go.Proofs.Try.func5 rfl (by kernel_rfl) mix (k5 0) (Nat.le_of_ble_eq_true l) h
end S04

