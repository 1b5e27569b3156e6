/- A part of the proof: C04a0, C04c0, C04f0. -/
import Derived.Test.YtncbkgbdpaibmaaF04
set_option linter.unusedVariables false
set_option linter.unusedSimpArgs false
set_option maxRecDepth 20000
namespace S04
open Go Abs
noncomputable def c3 (nb : Nat) : SC :=
 .seq (
 .ops [sop nb 3 (.box 25 (qt 0)) 0,
 sop nb 6 (.assign (.const (.bool false))) 4]) (
 .seq (
 .seq (
 .ops [qld nb 18 25 3,
 qmv nb 19 1 22,
 qmv nb 20 2 22,
 sop nb 21 (.buildSlice 56 2 #[(0, qt 19), (1, qt 20)]) 56,
 qcl nb 22 16 #[qt 18, qt 21] #[25, 56] 4]) (
 .cond (qt 22) (
  .seq (
  .ops [qcl nb 23 17 #[] #[] 4,
 qsg nb 6 23 4]) (
  .ret)) (
  .skip))) (
 .seq (
 .ops [qld nb 24 25 3,
 qcl nb 25 18 #[qt 24] #[25] 25,
 sop nb 26 (.buildSlice 22 0 #[]) 22,
 qmv nb 27 1 22,
 sop nb 28 (.call { callee := .builtin .append, args := #[qt 26, qt 27], argTypes := #[22, 22] }) 22,
 sop nb 29 (.buildSlice 22 0 #[]) 22,
 qmv nb 30 2 22,
 sop nb 31 (.call { callee := .builtin .append, args := #[qt 29, qt 30], argTypes := #[22, 22] }) 22,
 sop nb 7 (.alloc 25) 0,
 nop (.store 25 (qt 7) (qt 25)) 0,
 qsg nb 8 28 22,
 qsg nb 9 31 22]) (
 .seq (
 .ops [qld nb 32 25 7,
 qcl nb 33 19 #[qt 32] #[25] 29,
 qsg nb 10 33 29]) (
 .seq (
 .ops [qld nb 35 25 7,
 qmv nb 36 8 22,
 qcl nb 37 20 #[qt 35, qt 36] #[25, 22] 31,
 qmv nb 34 37 31,
 qex nb 38 34 0 3,
 qex nb 39 34 1 29,
 qsg nb 11 38 3,
 qsg nb 12 39 29]) (
 .seq (
 .ops [qld nb 41 25 7,
 qmv nb 42 8 22,
 qmv nb 43 9 22,
 qcl nb 44 21 #[qt 41, qt 42, qt 43] #[25, 22, 22] 33,
 qmv nb 40 44 33,
 qex nb 45 40 0 22,
 qex nb 46 40 1 3,
 qex nb 47 40 2 29,
 qsg nb 13 45 22,
 qsg nb 14 46 3,
 qsg nb 15 47 29]) (
 .seq (
 .ops [qld nb 48 25 3,
 qcl nb 49 22 #[qt 48] #[25] 29,
 qsg nb 16 49 29]) (
 .seq (
 .seq (
 .ops [qld nb 50 25 7,
 qld nb 51 25 3,
 qcl nb 52 23 #[qt 50, qt 51] #[25, 25] 4,
 sop nb 53 (.unOp .not 4 (qt 52)) 4,
 qmv nb 54 53 4,
 gop nb 55 (.move (qt 8)) 22 54 false,
 gop nb 56 (.move (qt 1)) 22 54 false,
 gop nb 57 (.call { callee := .value (.func 24), args := #[qt 55, qt 56], argTypes := #[22, 22] }) 4 54 false,
 gop nb 58 (.unOp .not 4 (qt 57)) 4 54 false,
 sop nb 59 (.pick (qt 54) (.const (.bool true)) (qt 58)) 4,
 qmv nb 60 59 4,
 gop nb 61 (.move (qt 9)) 22 60 false,
 gop nb 62 (.move (qt 2)) 22 60 false,
 gop nb 63 (.call { callee := .value (.func 24), args := #[qt 61, qt 62], argTypes := #[22, 22] }) 4 60 false,
 gop nb 64 (.unOp .not 4 (qt 63)) 4 60 false,
 sop nb 65 (.pick (qt 60) (.const (.bool true)) (qt 64)) 4,
 qmv nb 66 65 4,
 gop nb 67 (.move (qt 10)) 29 66 false,
 gop nb 68 (.move (qt 16)) 29 66 false,
 gop nb 69 (.binOp .neq 29 (qt 67) (qt 68) 29) 4 66 false,
 sop nb 70 (.pick (qt 66) (.const (.bool true)) (qt 69)) 4]) (
 .cond (qt 70) (
  .seq (
  .ops [sop nb 6 (.assign (.const (.bool false))) 4]) (
  .ret)) (
  .skip))) (
 .seq (
 .seq (
 .ops [qmv nb 71 16 29,
 qbo nb 72 .eql 29 71 (qi 0) 29 4,
 qmv nb 73 72 4,
 gop nb 74 (.load 25 (qt 3)) 25 73 true,
 gop nb 75 (.move (qt 1)) 22 73 true,
 gop nb 76 (.call { callee := .value (.func 25), args := #[qt 74, qt 75, (.const (.bool false))], argTypes := #[25, 22, 4] }) 4 73 true,
 gop nb 77 (.unOp .not 4 (qt 76)) 4 73 true,
 sop nb 78 (.pick (qt 73) (qt 77) (.const (.bool false))) 4]) (
 .cond (qt 78) (
  .ops [sop nb 16 (.assign (qi 4)) 29]) (
  .skip))) (
 .seq (
 .seq (
 .ops [qmv nb 79 12 29,
 qmv nb 80 16 29,
 qbo nb 81 .neq 29 79 (qt 80) 29 4,
 qmv nb 82 81 4,
 gop nb 83 (.move (qt 16)) 29 82 false,
 gop nb 84 (.binOp .neq 29 (qt 83) (qi 0) 29) 4 82 false,
 gop nb 85 (.move (qt 84)) 4 82 false,
 gop nb 86 (.move (qt 11)) 3 85 true,
 gop nb 87 (.binOp .neq 3 (qt 86) (qi 0) 3) 4 85 true,
 gop nb 88 (.pick (qt 85) (qt 87) (.const (.bool false))) 4 82 false,
 sop nb 89 (.pick (qt 82) (.const (.bool true)) (qt 88)) 4,
 qmv nb 90 89 4,
 gop nb 91 (.move (qt 16)) 29 90 false,
 gop nb 92 (.binOp .eql 29 (qt 91) (qi 0) 29) 4 90 false,
 gop nb 93 (.move (qt 92)) 4 90 false,
 gop nb 94 (.move (qt 11)) 3 93 true,
 gop nb 95 (.load 25 (qt 3)) 25 93 true,
 gop nb 96 (.move (qt 1)) 22 93 true,
 gop nb 97 (.call { callee := .value (.func 26), args := #[qt 95, qt 96], argTypes := #[25, 22] }) 3 93 true,
 gop nb 98 (.binOp .neq 3 (qt 94) (qt 97) 3) 4 93 true,
 gop nb 99 (.pick (qt 93) (qt 98) (.const (.bool false))) 4 90 false,
 sop nb 100 (.pick (qt 90) (.const (.bool true)) (qt 99)) 4]) (
 .cond (qt 100) (
  .seq (
  .ops [sop nb 6 (.assign (.const (.bool false))) 4]) (
  .ret)) (
  .skip))) (
 .seq (
 .seq (
 .ops [qmv nb 101 16 29,
 qbo nb 102 .eql 29 101 (qi 0) 29 4,
 qmv nb 103 102 4,
 gop nb 104 (.move (qt 1)) 22 103 true,
 gop nb 105 (.move (qt 2)) 22 103 true,
 gop nb 106 (.call { callee := .value (.func 27), args := #[qt 104, qt 105], argTypes := #[22, 22] }) 4 103 true,
 gop nb 107 (.unOp .not 4 (qt 106)) 4 103 true,
 sop nb 108 (.pick (qt 103) (qt 107) (.const (.bool false))) 4]) (
 .cond (qt 108) (
  .ops [sop nb 16 (.assign (qi 4)) 29]) (
  .skip))) (
 .seq (
 .seq (
 .ops [qmv nb 109 16 29,
 qbo nb 110 .neq 29 109 (qi 0) 29 4]) (
 .cond (qt 110) (
  .seq (
  .ops [qmv nb 111 15 29,
 qmv nb 112 16 29,
 qbo nb 113 .eql 29 111 (qt 112) 29 4,
 qmv nb 114 113 4,
 gop nb 115 (.move (qt 13)) 22 114 true,
 gop nb 116 (.call { callee := .builtin .len, args := #[qt 115], argTypes := #[22] }) 3 114 true,
 gop nb 117 (.binOp .eql 3 (qt 116) (qi 0) 3) 4 114 true,
 sop nb 118 (.pick (qt 114) (qt 117) (.const (.bool false))) 4,
 qmv nb 119 118 4,
 gop nb 120 (.move (qt 14)) 3 119 true,
 gop nb 121 (.binOp .eql 3 (qt 120) (qi 0) 3) 4 119 true,
 sop nb 122 (.pick (qt 119) (qt 121) (.const (.bool false))) 4,
 qmv nb 123 122 4,
 gop nb 124 (.call { callee := .value (.func 17), args := #[], argTypes := #[] }) 4 123 true,
 sop nb 125 (.pick (qt 123) (qt 124) (.const (.bool false))) 4,
 qsg nb 6 125 4]) (
  .ret)) (
  .skip))) (
 .seq (
 .ops [qld nb 126 25 3,
 qmv nb 127 1 22,
 qmv nb 128 2 22,
 qcl nb 129 28 #[qt 126, qt 127, qt 128] #[25, 22, 22] 22,
 qsg nb 17 129 22]) (
 .seq (
 .ops [qmv nb 130 15 29,
 qbo nb 131 .eql 29 130 (qi 0) 29 4,
 qmv nb 132 131 4,
 gop nb 133 (.move (qt 13)) 22 132 true,
 gop nb 134 (.move (qt 17)) 22 132 true,
 gop nb 135 (.call { callee := .value (.func 24), args := #[qt 133, qt 134], argTypes := #[22, 22] }) 4 132 true,
 sop nb 136 (.pick (qt 132) (qt 135) (.const (.bool false))) 4,
 qmv nb 137 136 4,
 gop nb 138 (.move (qt 14)) 3 137 true,
 gop nb 139 (.move (qt 17)) 22 137 true,
 gop nb 140 (.call { callee := .value (.func 29), args := #[qt 139], argTypes := #[22] }) 3 137 true,
 gop nb 141 (.binOp .eql 3 (qt 138) (qt 140) 3) 4 137 true,
 sop nb 142 (.pick (qt 137) (qt 141) (.const (.bool false))) 4,
 qmv nb 143 142 4,
 gop nb 144 (.call { callee := .value (.func 17), args := #[], argTypes := #[] }) 4 143 true,
 sop nb 145 (.pick (qt 143) (qt 144) (.const (.bool false))) 4,
 qsg nb 6 145 4]) (
 .ret))))))))))))))
@[go_sem] theorem rs3 : Go.Proofs.Try.f3.results.toList = [.tmp 6] := by kernel_rfl
theorem k3 (nb : Nat) : sk nb Go.Proofs.Try.f3.ntmps (Go.Proofs.Try.f3.body.getD .skip) = some (c3 nb) := by kernel_rfl
theorem w3 {a : List Arg} {r : RV} (h : W Q (c3 0) [] ⟨ρ0 (a.map fun a => a.m.lv), h0⟩ (retG Q Go.Proofs.Try.f3.results.toList (retF r))) (l : Nat.ble a.length Go.Proofs.Try.f3.ntmps = true := by kernel_rfl) : Fn Q 3 a r := fn_intro Go.Proofs.Try.func3 rfl (by kernel_rfl) mix (k3 0) (Nat.le_of_ble_eq_true l) h
end S04

namespace S04
open Go Abs
noncomputable def c5 (nb : Nat) : SC :=
 .seq (
 .ops [sop nb 3 (.box 25 (qt 0)) 0,
 sop nb 5 (.box 47 (qt 2)) 0,
 sop nb 6 (.assign (.const (.bool false))) 4]) (
 .seq (
 .seq (
 .ops [qld nb 20 25 3,
 qmv nb 21 1 22,
 sop nb 22 (.buildSlice 56 1 #[(0, qt 21)]) 56,
 qcl nb 23 16 #[qt 20, qt 22] #[25, 56] 4]) (
 .cond (qt 23) (
  .seq (
  .ops [qcl nb 24 17 #[] #[] 4,
 qsg nb 6 24 4]) (
  .ret)) (
  .skip))) (
 .seq (
 .opsD [qld nb 25 25 3,
 qcl nb 26 18 #[qt 25] #[25] 25,
 sop nb 27 (.buildSlice 22 0 #[]) 22,
 qmv nb 28 1 22,
 sop nb 29 (.call { callee := .builtin .append, args := #[qt 27, qt 28], argTypes := #[22, 22] }) 22,
 sop nb 30 (.indexAddr 47 (qt 5) (qi 0)) 0,
 qld nb 31 3 30,
 sop nb 32 (.indexAddr 47 (qt 5) (qi 1)) 0,
 qld nb 33 3 32,
 sop nb 7 (.alloc 25) 0,
 nop (.store 25 (qt 7) (qt 26)) 0,
 qsg nb 8 29 22,
 qsg nb 9 31 3,
 qsg nb 10 33 3] [(0, 2), (1, 2), (1, 5), (2, 5), (4, 5), (1, 6), (2, 6), (4, 6), (1, 7), (2, 7), (4, 7), (1, 8), (2, 8), (4, 8), (0, 9), (1, 9), (2, 9), (4, 9), (5, 9), (6, 9), (7, 9), (8, 9), (5, 10), (6, 10), (7, 10), (8, 10), (5, 11), (6, 11), (7, 11), (8, 11), (7, 12), (8, 12)]) (
 .seq (
 .ops [qld nb 35 25 7,
 qmv nb 36 8 22,
 qmv nb 37 10 3,
 qcl nb 38 33 #[qt 35, qt 36, qt 37] #[25, 22, 3] 48,
 qmv nb 34 38 48,
 qex nb 39 34 0 22,
 qex nb 40 34 1 29,
 qsg nb 11 39 22,
 qsg nb 12 40 29]) (
 .seq (
 .ops [qld nb 42 25 7,
 qmv nb 43 8 22,
 qmv nb 44 9 3,
 qmv nb 45 10 3,
 qcl nb 46 34 #[qt 42, qt 43, qt 44, qt 45] #[25, 22, 3, 3] 31,
 qmv nb 41 46 31,
 qex nb 47 41 0 3,
 qex nb 48 41 1 29,
 qsg nb 13 47 3,
 qsg nb 14 48 29]) (
 .seq (
 .seq (
 .ops [qld nb 49 25 7,
 qld nb 50 25 3,
 qcl nb 51 23 #[qt 49, qt 50] #[25, 25] 4,
 sop nb 52 (.unOp .not 4 (qt 51)) 4,
 qmv nb 53 52 4,
 gop nb 54 (.move (qt 8)) 22 53 false,
 gop nb 55 (.move (qt 1)) 22 53 false,
 gop nb 56 (.call { callee := .value (.func 24), args := #[qt 54, qt 55], argTypes := #[22, 22] }) 4 53 false,
 gop nb 57 (.unOp .not 4 (qt 56)) 4 53 false,
 sop nb 58 (.pick (qt 53) (.const (.bool true)) (qt 57)) 4]) (
 .cond (qt 58) (
  .seq (
  .ops [sop nb 6 (.assign (.const (.bool false))) 4]) (
  .ret)) (
  .skip))) (
 .seq (
 .ops [qld nb 59 25 3,
 qmv nb 60 1 22,
 qmv nb 61 10 3,
 qcl nb 62 31 #[qt 59, qt 60, qt 61] #[25, 22, 3] 29,
 sop nb 63 (.buildSlice 22 0 #[]) 22,
 qsg nb 15 62 29,
 qsg nb 16 63 22]) (
 .seq (
 .seq (
 .ops [qmv nb 64 15 29,
 qbo nb 65 .eql 29 64 (qi 0) 29 4]) (
 .cond (qt 65) (
  .seq (
  .ops [qld nb 67 25 3,
 qmv nb 68 1 22,
 qmv nb 69 10 3,
 qcl nb 70 35 #[qt 67, qt 68, qt 69] #[25, 22, 3] 51,
 qmv nb 66 70 51,
 qex nb 71 66 0 22,
 qex nb 72 66 1 4,
 qsg nb 17 71 22,
 qsg nb 18 72 4]) (
  .seq (
  .block 0 (
   .seq (
   .ops [qmv nb 74 18 4,
 sop nb 75 (.unOp .not 4 (qt 74)) 4,
 qsg nb 73 75 4]) (
   .cond (qt 73) (
    .ops [sop nb 15 (.assign (qi 9)) 29]) (
    .seq (
    .ops [qmv nb 77 17 22,
 qln nb 78 #[qt 77] #[22] 3,
 qbo nb 79 .eql 3 78 (qi 0) 3 4,
 qsg nb 76 79 4]) (
    .cond (qt 76) (
     .ops [sop nb 15 (.assign (qi 6)) 29]) (
     .skip)))))) (
  .ops [qmv nb 80 17 22,
 qsg nb 16 80 22]))) (
  .skip))) (
 .seq (
 .seq (
 .ops [qmv nb 81 12 29,
 qmv nb 82 15 29,
 qbo nb 83 .neq 29 81 (qt 82) 29 4,
 qmv nb 84 83 4,
 gop nb 85 (.move (qt 15)) 29 84 false,
 gop nb 86 (.binOp .neq 29 (qt 85) (qi 0) 29) 4 84 false,
 gop nb 87 (.move (qt 86)) 4 84 false,
 gop nb 88 (.move (qt 11)) 22 87 true,
 gop nb 89 (.call { callee := .builtin .len, args := #[qt 88], argTypes := #[22] }) 3 87 true,
 gop nb 90 (.binOp .neq 3 (qt 89) (qi 0) 3) 4 87 true,
 gop nb 91 (.pick (qt 87) (qt 90) (.const (.bool false))) 4 84 false,
 sop nb 92 (.pick (qt 84) (.const (.bool true)) (qt 91)) 4,
 qmv nb 93 92 4,
 gop nb 94 (.move (qt 15)) 29 93 false,
 gop nb 95 (.binOp .eql 29 (qt 94) (qi 0) 29) 4 93 false,
 gop nb 96 (.move (qt 95)) 4 93 false,
 gop nb 97 (.move (qt 11)) 22 96 true,
 gop nb 98 (.move (qt 16)) 22 96 true,
 gop nb 99 (.call { callee := .value (.func 24), args := #[qt 97, qt 98], argTypes := #[22, 22] }) 4 96 true,
 gop nb 100 (.unOp .not 4 (qt 99)) 4 96 true,
 gop nb 101 (.pick (qt 96) (qt 100) (.const (.bool false))) 4 93 false,
 sop nb 102 (.pick (qt 93) (.const (.bool true)) (qt 101)) 4]) (
 .cond (qt 102) (
  .seq (
  .ops [sop nb 6 (.assign (.const (.bool false))) 4]) (
  .ret)) (
  .skip))) (
 .seq (
 .ops [qld nb 103 25 3,
 qmv nb 104 1 22,
 qcl nb 105 31 #[qt 103, qt 104, qi 1] #[25, 22, 3] 29,
 qsg nb 15 105 29]) (
 .seq (
 .seq (
 .ops [qmv nb 106 15 29,
 qbo nb 107 .eql 29 106 (qi 0) 29 4,
 qmv nb 108 107 4,
 gop nb 109 (.move (qt 9)) 3 108 true,
 gop nb 110 (.move (qt 1)) 22 108 true,
 gop nb 111 (.call { callee := .builtin .len, args := #[qt 110], argTypes := #[22] }) 3 108 true,
 gop nb 112 (.binOp .sub 3 (qt 111) (qi 1) 3) 3 108 true,
 gop nb 113 (.call { callee := .value (.func 36), args := #[qt 109, qi 0, qt 112], argTypes := #[3, 3, 3] }) 4 108 true,
 gop nb 114 (.unOp .not 4 (qt 113)) 4 108 true,
 sop nb 115 (.pick (qt 108) (qt 114) (.const (.bool false))) 4]) (
 .cond (qt 115) (
  .ops [sop nb 15 (.assign (qi 7)) 29]) (
  .skip))) (
 .seq (
 .seq (
 .ops [qmv nb 116 15 29,
 qbo nb 117 .eql 29 116 (qi 0) 29 4,
 qmv nb 118 117 4,
 gop nb 119 (.move (qt 10)) 3 118 true,
 gop nb 120 (.call { callee := .value (.func 36), args := #[qt 119, qi 1, qi 400], argTypes := #[3, 3, 3] }) 4 118 true,
 gop nb 121 (.unOp .not 4 (qt 120)) 4 118 true,
 sop nb 122 (.pick (qt 118) (qt 121) (.const (.bool false))) 4]) (
 .cond (qt 122) (
  .ops [sop nb 15 (.assign (qi 3)) 29]) (
  .skip))) (
 .seq (
 .ops [sop nb 19 (.assign (qi 0)) 3]) (
 .seq (
 .seq (
 .ops [qmv nb 123 15 29,
 qbo nb 124 .eql 29 123 (qi 0) 29 4]) (
 .cond (qt 124) (
  .seq (
  .ops [qld nb 125 25 3,
 qmv nb 126 1 22,
 qmv nb 127 9 3,
 qmv nb 128 10 3,
 qcl nb 129 37 #[qt 125, qt 126, qt 127, qt 128] #[25, 22, 3, 3] 3,
 qsg nb 19 129 3]) (
  .seq (
  .ops [qmv nb 130 19 3,
 qbo nb 131 .eql 3 130 (qi 0) 3 4]) (
  .cond (qt 131) (
   .ops [sop nb 15 (.assign (qi 8)) 29]) (
   .skip)))) (
  .skip))) (
 .seq (
 .seq (
 .ops [qmv nb 132 15 29,
 qbo nb 133 .neq 29 132 (qi 0) 29 4]) (
 .cond (qt 133) (
  .seq (
  .ops [qmv nb 134 14 29,
 qmv nb 135 15 29,
 qbo nb 136 .eql 29 134 (qt 135) 29 4,
 qmv nb 137 136 4,
 gop nb 138 (.move (qt 13)) 3 137 true,
 gop nb 139 (.binOp .eql 3 (qt 138) (qi 0) 3) 4 137 true,
 sop nb 140 (.pick (qt 137) (qt 139) (.const (.bool false))) 4,
 qmv nb 141 140 4,
 gop nb 142 (.call { callee := .value (.func 17), args := #[], argTypes := #[] }) 4 141 true,
 sop nb 143 (.pick (qt 141) (qt 142) (.const (.bool false))) 4,
 qsg nb 6 143 4]) (
  .ret)) (
  .skip))) (
 .seq (
 .ops [qmv nb 144 14 29,
 qbo nb 145 .eql 29 144 (qi 0) 29 4,
 qmv nb 146 145 4,
 gop nb 147 (.move (qt 13)) 3 146 true,
 gop nb 148 (.move (qt 19)) 3 146 true,
 gop nb 149 (.binOp .eql 3 (qt 147) (qt 148) 3) 4 146 true,
 sop nb 150 (.pick (qt 146) (qt 149) (.const (.bool false))) 4,
 qmv nb 151 150 4,
 gop nb 152 (.call { callee := .value (.func 17), args := #[], argTypes := #[] }) 4 151 true,
 sop nb 153 (.pick (qt 151) (qt 152) (.const (.bool false))) 4,
 qsg nb 6 153 4]) (
 .ret))))))))))))))))
theorem k5 (nb : Nat) : sk nb Go.Proofs.Try.f5.ntmps (Go.Proofs.Try.f5.body.getD .skip) = some (c5 nb) := by kernel_rfl
theorem w5 {a : List Arg} {r : RV} (h : W Q (c5 0) [] ⟨ρ0 (a.map fun a => a.m.lv), h0⟩ (retG Q Go.Proofs.Try.f5.results.toList (retF r))) (l : Nat.ble a.length Go.Proofs.Try.f5.ntmps = true := by kernel_rfl) : Fn Q 5 a r := fn_intro Go.Proofs.Try.func5 rfl (by kernel_rfl) mix (k5 0) (Nat.le_of_ble_eq_true l) h
end S04

namespace S04
open Go Abs
noncomputable def c8 (nb : Nat) : SC :=
 .seq (
 .ops [sop nb 3 (.box 25 (qt 0)) 0,
 sop nb 4 (.box 66 (qt 1)) 0,
 sop nb 6 (.assign (.const (.bool false))) 4]) (
 .seq (
 .opsD [sop nb 16 (.indexAddr 66 (qt 4) (qi 0)) 0,
 qld nb 17 22 16,
 sop nb 18 (.indexAddr 66 (qt 4) (qi 1)) 0,
 qld nb 19 22 18,
 qsg nb 7 17 22,
 qsg nb 8 19 22] [(2, 4), (3, 4)]) (
 .seq (
 .seq (
 .ops [qld nb 20 25 3,
 qmv nb 21 7 22,
 qmv nb 22 8 22,
 sop nb 23 (.buildSlice 56 2 #[(0, qt 21), (1, qt 22)]) 56,
 qcl nb 24 16 #[qt 20, qt 23] #[25, 56] 4]) (
 .cond (qt 24) (
  .seq (
  .ops [qcl nb 25 17 #[] #[] 4,
 qsg nb 6 25 4]) (
  .ret)) (
  .skip))) (
 .seq (
 .ops [qld nb 26 25 3,
 qcl nb 27 18 #[qt 26] #[25] 25,
 sop nb 28 (.buildSlice 22 0 #[]) 22,
 qmv nb 29 7 22,
 sop nb 30 (.call { callee := .builtin .append, args := #[qt 28, qt 29], argTypes := #[22, 22] }) 22,
 sop nb 31 (.buildSlice 22 0 #[]) 22,
 qmv nb 32 8 22,
 sop nb 33 (.call { callee := .builtin .append, args := #[qt 31, qt 32], argTypes := #[22, 22] }) 22,
 sop nb 9 (.alloc 25) 0,
 nop (.store 25 (qt 9) (qt 27)) 0,
 qsg nb 10 30 22,
 qsg nb 11 33 22]) (
 .seq (
 .ops [qld nb 35 25 9,
 qmv nb 36 10 22,
 qmv nb 37 11 22,
 qmv nb 38 2 3,
 qcl nb 39 45 #[qt 35, qt 36, qt 37, qt 38] #[25, 22, 22, 3] 48,
 qmv nb 34 39 48,
 qex nb 40 34 0 22,
 qex nb 41 34 1 29,
 qsg nb 12 40 22,
 qsg nb 13 41 29]) (
 .seq (
 .seq (
 .ops [qld nb 42 25 9,
 qld nb 43 25 3,
 qcl nb 44 23 #[qt 42, qt 43] #[25, 25] 4,
 sop nb 45 (.unOp .not 4 (qt 44)) 4,
 qmv nb 46 45 4,
 gop nb 47 (.move (qt 10)) 22 46 false,
 gop nb 48 (.move (qt 7)) 22 46 false,
 gop nb 49 (.call { callee := .value (.func 24), args := #[qt 47, qt 48], argTypes := #[22, 22] }) 4 46 false,
 gop nb 50 (.unOp .not 4 (qt 49)) 4 46 false,
 sop nb 51 (.pick (qt 46) (.const (.bool true)) (qt 50)) 4,
 qmv nb 52 51 4,
 gop nb 53 (.move (qt 11)) 22 52 false,
 gop nb 54 (.move (qt 8)) 22 52 false,
 gop nb 55 (.call { callee := .value (.func 24), args := #[qt 53, qt 54], argTypes := #[22, 22] }) 4 52 false,
 gop nb 56 (.unOp .not 4 (qt 55)) 4 52 false,
 sop nb 57 (.pick (qt 52) (.const (.bool true)) (qt 56)) 4]) (
 .cond (qt 57) (
  .seq (
  .ops [sop nb 6 (.assign (.const (.bool false))) 4]) (
  .ret)) (
  .skip))) (
 .seq (
 .ops [qld nb 58 25 3,
 qmv nb 59 7 22,
 qcl nb 60 31 #[qt 58, qt 59, qi 1] #[25, 22, 3] 29,
 sop nb 61 (.buildSlice 22 0 #[]) 22,
 qsg nb 14 60 29,
 qsg nb 15 61 22]) (
 .seq (
 .seq (
 .ops [qmv nb 62 14 29,
 qbo nb 63 .eql 29 62 (qi 0) 29 4,
 qmv nb 64 63 4,
 gop nb 65 (.move (qt 7)) 22 64 true,
 gop nb 66 (.move (qt 8)) 22 64 true,
 gop nb 67 (.call { callee := .value (.func 27), args := #[qt 65, qt 66], argTypes := #[22, 22] }) 4 64 true,
 gop nb 68 (.unOp .not 4 (qt 67)) 4 64 true,
 sop nb 69 (.pick (qt 64) (qt 68) (.const (.bool false))) 4]) (
 .cond (qt 69) (
  .ops [sop nb 14 (.assign (qi 4)) 29]) (
  .skip))) (
 .seq (
 .seq (
 .ops [qmv nb 70 14 29,
 qbo nb 71 .eql 29 70 (qi 0) 29 4,
 qmv nb 72 71 4,
 gop nb 73 (.move (qt 2)) 3 72 true,
 gop nb 74 (.call { callee := .value (.func 36), args := #[qt 73, qi 0, qi 400], argTypes := #[3, 3, 3] }) 4 72 true,
 gop nb 75 (.unOp .not 4 (qt 74)) 4 72 true,
 sop nb 76 (.pick (qt 72) (qt 75) (.const (.bool false))) 4]) (
 .cond (qt 76) (
  .ops [sop nb 14 (.assign (qi 3)) 29]) (
  .skip))) (
 .seq (
 .seq (
 .ops [qmv nb 77 14 29,
 qbo nb 78 .eql 29 77 (qi 0) 29 4]) (
 .cond (qt 78) (
  .seq (
  .ops [qld nb 79 25 3,
 qmv nb 80 7 22,
 qmv nb 81 8 22,
 qmv nb 82 2 3,
 qcl nb 83 46 #[qt 79, qt 80, qt 81, qt 82] #[25, 22, 22, 3] 22,
 qsg nb 15 83 22]) (
  .seq (
  .ops [qmv nb 84 15 22,
 qln nb 85 #[qt 84] #[22] 3,
 qbo nb 86 .eql 3 85 (qi 0) 3 4]) (
  .cond (qt 86) (
   .ops [sop nb 14 (.assign (qi 6)) 29]) (
   .skip)))) (
  .skip))) (
 .seq (
 .seq (
 .ops [qmv nb 87 14 29,
 qbo nb 88 .neq 29 87 (qi 0) 29 4]) (
 .cond (qt 88) (
  .seq (
  .ops [qmv nb 89 13 29,
 qmv nb 90 14 29,
 qbo nb 91 .eql 29 89 (qt 90) 29 4,
 qmv nb 92 91 4,
 gop nb 93 (.move (qt 12)) 22 92 true,
 gop nb 94 (.call { callee := .builtin .len, args := #[qt 93], argTypes := #[22] }) 3 92 true,
 gop nb 95 (.binOp .eql 3 (qt 94) (qi 0) 3) 4 92 true,
 sop nb 96 (.pick (qt 92) (qt 95) (.const (.bool false))) 4,
 qmv nb 97 96 4,
 gop nb 98 (.call { callee := .value (.func 17), args := #[], argTypes := #[] }) 4 97 true,
 sop nb 99 (.pick (qt 97) (qt 98) (.const (.bool false))) 4,
 qsg nb 6 99 4]) (
  .ret)) (
  .skip))) (
 .seq (
 .ops [qmv nb 100 13 29,
 qbo nb 101 .eql 29 100 (qi 0) 29 4,
 qmv nb 102 101 4,
 gop nb 103 (.move (qt 12)) 22 102 true,
 gop nb 104 (.move (qt 15)) 22 102 true,
 gop nb 105 (.call { callee := .value (.func 24), args := #[qt 103, qt 104], argTypes := #[22, 22] }) 4 102 true,
 sop nb 106 (.pick (qt 102) (qt 105) (.const (.bool false))) 4,
 qmv nb 107 106 4,
 gop nb 108 (.call { callee := .value (.func 17), args := #[], argTypes := #[] }) 4 107 true,
 sop nb 109 (.pick (qt 107) (qt 108) (.const (.bool false))) 4,
 qsg nb 6 109 4]) (
 .ret))))))))))))
@[go_sem] theorem rs8 : Go.Proofs.Try.f8.results.toList = [.tmp 6] := by kernel_rfl
theorem k8 (nb : Nat) : sk nb Go.Proofs.Try.f8.ntmps (Go.Proofs.Try.f8.body.getD .skip) = some (c8 nb) := by kernel_rfl
theorem w8 {a : List Arg} {r : RV} (h : W Q (c8 0) [] ⟨ρ0 (a.map fun a => a.m.lv), h0⟩ (retG Q Go.Proofs.Try.f8.results.toList (retF r))) (l : Nat.ble a.length Go.Proofs.Try.f8.ntmps = true := by kernel_rfl) : Fn Q 8 a r := fn_intro Go.Proofs.Try.func8 rfl (by kernel_rfl) mix (k8 0) (Nat.le_of_ble_eq_true l) h
end S04

