/- A part of the proof: C04c0, C04e0. -/
import Derived.Test.YtncbkgbdpaibmaaF04
set_option linter.unusedVariables false
set_option linter.unusedSimpArgs false
set_option maxRecDepth 20000
namespace S04
open Go Abs
noncomputable def c5 (nb : Nat) : SC :=
 .seq (
 .ops [sop nb 3 (.box 25 (qt 0)) 0,
 sop nb 5 (.box 47 (qt 2)) 0,
 sop nb 6 (.assign (.const (.bool false))) 4]) (
 .seq (
 .seq (
 .ops [qld nb 20 25 3,
 qmv nb 21 1 22,
 sop nb 22 (.buildSlice 56 1 #[(0, qt 21)]) 56,
 qcl nb 23 16 #[qt 20, qt 22] #[25, 56] 4]) (
 .cond (qt 23) (
  .seq (
  .ops [qcl nb 24 17 #[] #[] 4,
 qsg nb 6 24 4]) (
  .ret)) (
  .skip))) (
 .seq (
 .opsD [qld nb 25 25 3,
 qcl nb 26 18 #[qt 25] #[25] 25,
 sop nb 27 (.buildSlice 22 0 #[]) 22,
 qmv nb 28 1 22,
 sop nb 29 (.call { callee := .builtin .append, args := #[qt 27, qt 28], argTypes := #[22, 22] }) 22,
 sop nb 30 (.indexAddr 47 (qt 5) (qi 0)) 0,
 qld nb 31 3 30,
 sop nb 32 (.indexAddr 47 (qt 5) (qi 1)) 0,
 qld nb 33 3 32,
 sop nb 7 (.alloc 25) 0,
 nop (.store 25 (qt 7) (qt 26)) 0,
 qsg nb 8 29 22,
 qsg nb 9 31 3,
 qsg nb 10 33 3] [(0, 2), (1, 2), (1, 5), (2, 5), (4, 5), (1, 6), (2, 6), (4, 6), (1, 7), (2, 7), (4, 7), (1, 8), (2, 8), (4, 8), (0, 9), (1, 9), (2, 9), (4, 9), (5, 9), (6, 9), (7, 9), (8, 9), (5, 10), (6, 10), (7, 10), (8, 10), (5, 11), (6, 11), (7, 11), (8, 11), (7, 12), (8, 12)]) (
 .seq (
 .ops [qld nb 35 25 7,
 qmv nb 36 8 22,
 qmv nb 37 10 3,
 qcl nb 38 33 #[qt 35, qt 36, qt 37] #[25, 22, 3] 48,
 qmv nb 34 38 48,
 qex nb 39 34 0 22,
 qex nb 40 34 1 29,
 qsg nb 11 39 22,
 qsg nb 12 40 29]) (
 .seq (
 .ops [qld nb 42 25 7,
 qmv nb 43 8 22,
 qmv nb 44 9 3,
 qmv nb 45 10 3,
 qcl nb 46 34 #[qt 42, qt 43, qt 44, qt 45] #[25, 22, 3, 3] 31,
 qmv nb 41 46 31,
 qex nb 47 41 0 3,
 qex nb 48 41 1 29,
 qsg nb 13 47 3,
 qsg nb 14 48 29]) (
 .seq (
 .seq (
 .ops [qld nb 49 25 7,
 qld nb 50 25 3,
 qcl nb 51 23 #[qt 49, qt 50] #[25, 25] 4,
 sop nb 52 (.unOp .not 4 (qt 51)) 4,
 qmv nb 53 52 4,
 gop nb 54 (.move (qt 8)) 22 53 false,
 gop nb 55 (.move (qt 1)) 22 53 false,
 gop nb 56 (.call { callee := .value (.func 24), args := #[qt 54, qt 55], argTypes := #[22, 22] }) 4 53 false,
 gop nb 57 (.unOp .not 4 (qt 56)) 4 53 false,
 sop nb 58 (.pick (qt 53) (.const (.bool true)) (qt 57)) 4]) (
 .cond (qt 58) (
  .seq (
  .ops [sop nb 6 (.assign (.const (.bool false))) 4]) (
  .ret)) (
  .skip))) (
 .seq (
 .ops [qld nb 59 25 3,
 qmv nb 60 1 22,
 qmv nb 61 10 3,
 qcl nb 62 31 #[qt 59, qt 60, qt 61] #[25, 22, 3] 29,
 sop nb 63 (.buildSlice 22 0 #[]) 22,
 qsg nb 15 62 29,
 qsg nb 16 63 22]) (
 .seq (
 .seq (
 .ops [qmv nb 64 15 29,
 qbo nb 65 .eql 29 64 (qi 0) 29 4]) (
 .cond (qt 65) (
  .seq (
  .ops [qld nb 67 25 3,
 qmv nb 68 1 22,
 qmv nb 69 10 3,
 qcl nb 70 35 #[qt 67, qt 68, qt 69] #[25, 22, 3] 51,
 qmv nb 66 70 51,
 qex nb 71 66 0 22,
 qex nb 72 66 1 4,
 qsg nb 17 71 22,
 qsg nb 18 72 4]) (
  .seq (
  .block 0 (
   .seq (
   .ops [qmv nb 74 18 4,
 sop nb 75 (.unOp .not 4 (qt 74)) 4,
 qsg nb 73 75 4]) (
   .cond (qt 73) (
    .ops [sop nb 15 (.assign (qi 9)) 29]) (
    .seq (
    .ops [qmv nb 77 17 22,
 qln nb 78 #[qt 77] #[22] 3,
 qbo nb 79 .eql 3 78 (qi 0) 3 4,
 qsg nb 76 79 4]) (
    .cond (qt 76) (
     .ops [sop nb 15 (.assign (qi 6)) 29]) (
     .skip)))))) (
  .ops [qmv nb 80 17 22,
 qsg nb 16 80 22]))) (
  .skip))) (
 .seq (
 .seq (
 .ops [qmv nb 81 12 29,
 qmv nb 82 15 29,
 qbo nb 83 .neq 29 81 (qt 82) 29 4,
 qmv nb 84 83 4,
 gop nb 85 (.move (qt 15)) 29 84 false,
 gop nb 86 (.binOp .neq 29 (qt 85) (qi 0) 29) 4 84 false,
 gop nb 87 (.move (qt 86)) 4 84 false,
 gop nb 88 (.move (qt 11)) 22 87 true,
 gop nb 89 (.call { callee := .builtin .len, args := #[qt 88], argTypes := #[22] }) 3 87 true,
 gop nb 90 (.binOp .neq 3 (qt 89) (qi 0) 3) 4 87 true,
 gop nb 91 (.pick (qt 87) (qt 90) (.const (.bool false))) 4 84 false,
 sop nb 92 (.pick (qt 84) (.const (.bool true)) (qt 91)) 4,
 qmv nb 93 92 4,
 gop nb 94 (.move (qt 15)) 29 93 false,
 gop nb 95 (.binOp .eql 29 (qt 94) (qi 0) 29) 4 93 false,
 gop nb 96 (.move (qt 95)) 4 93 false,
 gop nb 97 (.move (qt 11)) 22 96 true,
 gop nb 98 (.move (qt 16)) 22 96 true,
 gop nb 99 (.call { callee := .value (.func 24), args := #[qt 97, qt 98], argTypes := #[22, 22] }) 4 96 true,
 gop nb 100 (.unOp .not 4 (qt 99)) 4 96 true,
 gop nb 101 (.pick (qt 96) (qt 100) (.const (.bool false))) 4 93 false,
 sop nb 102 (.pick (qt 93) (.const (.bool true)) (qt 101)) 4]) (
 .cond (qt 102) (
  .seq (
  .ops [sop nb 6 (.assign (.const (.bool false))) 4]) (
  .ret)) (
  .skip))) (
 .seq (
 .ops [qld nb 103 25 3,
 qmv nb 104 1 22,
 qcl nb 105 31 #[qt 103, qt 104, qi 1] #[25, 22, 3] 29,
 qsg nb 15 105 29]) (
 .seq (
 .seq (
 .ops [qmv nb 106 15 29,
 qbo nb 107 .eql 29 106 (qi 0) 29 4,
 qmv nb 108 107 4,
 gop nb 109 (.move (qt 9)) 3 108 true,
 gop nb 110 (.move (qt 1)) 22 108 true,
 gop nb 111 (.call { callee := .builtin .len, args := #[qt 110], argTypes := #[22] }) 3 108 true,
 gop nb 112 (.binOp .sub 3 (qt 111) (qi 1) 3) 3 108 true,
 gop nb 113 (.call { callee := .value (.func 36), args := #[qt 109, qi 0, qt 112], argTypes := #[3, 3, 3] }) 4 108 true,
 gop nb 114 (.unOp .not 4 (qt 113)) 4 108 true,
 sop nb 115 (.pick (qt 108) (qt 114) (.const (.bool false))) 4]) (
 .cond (qt 115) (
  .ops [sop nb 15 (.assign (qi 7)) 29]) (
  .skip))) (
 .seq (
 .seq (
 .ops [qmv nb 116 15 29,
 qbo nb 117 .eql 29 116 (qi 0) 29 4,
 qmv nb 118 117 4,
 gop nb 119 (.move (qt 10)) 3 118 true,
 gop nb 120 (.call { callee := .value (.func 36), args := #[qt 119, qi 1, qi 400], argTypes := #[3, 3, 3] }) 4 118 true,
 gop nb 121 (.unOp .not 4 (qt 120)) 4 118 true,
 sop nb 122 (.pick (qt 118) (qt 121) (.const (.bool false))) 4]) (
 .cond (qt 122) (
  .ops [sop nb 15 (.assign (qi 3)) 29]) (
  .skip))) (
 .seq (
 .ops [sop nb 19 (.assign (qi 0)) 3]) (
 .seq (
 .seq (
 .ops [qmv nb 123 15 29,
 qbo nb 124 .eql 29 123 (qi 0) 29 4]) (
 .cond (qt 124) (
  .seq (
  .ops [qld nb 125 25 3,
 qmv nb 126 1 22,
 qmv nb 127 9 3,
 qmv nb 128 10 3,
 qcl nb 129 37 #[qt 125, qt 126, qt 127, qt 128] #[25, 22, 3, 3] 3,
 qsg nb 19 129 3]) (
  .seq (
  .ops [qmv nb 130 19 3,
 qbo nb 131 .eql 3 130 (qi 0) 3 4]) (
  .cond (qt 131) (
   .ops [sop nb 15 (.assign (qi 8)) 29]) (
   .skip)))) (
  .skip))) (
 .seq (
 .seq (
 .ops [qmv nb 132 15 29,
 qbo nb 133 .neq 29 132 (qi 0) 29 4]) (
 .cond (qt 133) (
  .seq (
  .ops [qmv nb 134 14 29,
 qmv nb 135 15 29,
 qbo nb 136 .eql 29 134 (qt 135) 29 4,
 qmv nb 137 136 4,
 gop nb 138 (.move (qt 13)) 3 137 true,
 gop nb 139 (.binOp .eql 3 (qt 138) (qi 0) 3) 4 137 true,
 sop nb 140 (.pick (qt 137) (qt 139) (.const (.bool false))) 4,
 qmv nb 141 140 4,
 gop nb 142 (.call { callee := .value (.func 17), args := #[], argTypes := #[] }) 4 141 true,
 sop nb 143 (.pick (qt 141) (qt 142) (.const (.bool false))) 4,
 qsg nb 6 143 4]) (
  .ret)) (
  .skip))) (
 .seq (
 .ops [qmv nb 144 14 29,
 qbo nb 145 .eql 29 144 (qi 0) 29 4,
 qmv nb 146 145 4,
 gop nb 147 (.move (qt 13)) 3 146 true,
 gop nb 148 (.move (qt 19)) 3 146 true,
 gop nb 149 (.binOp .eql 3 (qt 147) (qt 148) 3) 4 146 true,
 sop nb 150 (.pick (qt 146) (qt 149) (.const (.bool false))) 4,
 qmv nb 151 150 4,
 gop nb 152 (.call { callee := .value (.func 17), args := #[], argTypes := #[] }) 4 151 true,
 sop nb 153 (.pick (qt 151) (qt 152) (.const (.bool false))) 4,
 qsg nb 6 153 4]) (
 .ret))))))))))))))))
theorem k5 (nb : Nat) : sk nb Go.Proofs.Try.f5.ntmps (Go.Proofs.Try.f5.body.getD .skip) = some (c5 nb) := by kernel_rfl
theorem w5 {a : List Arg} {r : RV} (h : W Q (c5 0) [] ⟨ρ0 (a.map fun a => a.m.lv), h0⟩ (retG Q Go.Proofs.Try.f5.results.toList (retF r))) (l : Nat.ble a.length Go.Proofs.Try.f5.ntmps = true := by kernel_rfl) : Fn Q 5 a r := fn_intro Go.Proofs.Try.func5 rfl (by kernel_rfl) mix (k5 0) (Nat.le_of_ble_eq_true l) h
end S04

namespace S04
open Go Abs
noncomputable def c7 (nb : Nat) : SC :=
 .seq (
 .ops [sop nb 3 (.box 25 (qt 0)) 0,
 sop nb 6 (.assign (.const (.bool false))) 4]) (
 .seq (
 .seq (
 .ops [qld nb 16 25 3,
 qmv nb 17 1 56,
 qcl nb 18 16 #[qt 16, qt 17] #[25, 56] 4,
 qmv nb 19 18 4,
 gop nb 20 (.move (qt 2)) 22 19 false,
 gop nb 21 (.call { callee := .builtin .len, args := #[qt 20], argTypes := #[22] }) 3 19 false,
 gop nb 22 (.binOp .gtr 3 (qt 21) (qi 20) 3) 4 19 false,
 sop nb 23 (.pick (qt 19) (.const (.bool true)) (qt 22)) 4]) (
 .cond (qt 23) (
  .seq (
  .ops [qcl nb 24 17 #[] #[] 4,
 qsg nb 6 24 4]) (
  .ret)) (
  .skip))) (
 .seq (
 .ops [qld nb 25 25 3,
 qcl nb 26 18 #[qt 25] #[25] 25,
 qmv nb 27 1 56,
 qcl nb 28 38 #[qt 27] #[56] 56,
 sop nb 29 (.buildSlice 22 0 #[]) 22,
 qmv nb 30 2 22,
 sop nb 31 (.call { callee := .builtin .append, args := #[qt 29, qt 30], argTypes := #[22, 22] }) 22,
 sop nb 7 (.alloc 25) 0,
 nop (.store 25 (qt 7) (qt 26)) 0,
 qsg nb 8 28 56,
 qsg nb 9 31 22]) (
 .seq (
 .ops [qld nb 33 25 7,
 qmv nb 34 8 56,
 qmv nb 35 9 22,
 qcl nb 36 43 #[qt 33, qt 34, qt 35] #[25, 56, 22] 48,
 qmv nb 32 36 48,
 qex nb 37 32 0 22,
 qex nb 38 32 1 29,
 qsg nb 10 37 22,
 qsg nb 11 38 29]) (
 .seq (
 .seq (
 .ops [qld nb 39 25 7,
 qld nb 40 25 3,
 qcl nb 41 23 #[qt 39, qt 40] #[25, 25] 4,
 sop nb 42 (.unOp .not 4 (qt 41)) 4,
 qmv nb 43 42 4,
 gop nb 44 (.move (qt 8)) 56 43 false,
 gop nb 45 (.move (qt 1)) 56 43 false,
 gop nb 46 (.call { callee := .value (.func 40), args := #[qt 44, qt 45], argTypes := #[56, 56] }) 4 43 false,
 gop nb 47 (.unOp .not 4 (qt 46)) 4 43 false,
 sop nb 48 (.pick (qt 43) (.const (.bool true)) (qt 47)) 4,
 qmv nb 49 48 4,
 gop nb 50 (.move (qt 9)) 22 49 false,
 gop nb 51 (.move (qt 2)) 22 49 false,
 gop nb 52 (.call { callee := .value (.func 24), args := #[qt 50, qt 51], argTypes := #[22, 22] }) 4 49 false,
 gop nb 53 (.unOp .not 4 (qt 52)) 4 49 false,
 sop nb 54 (.pick (qt 49) (.const (.bool true)) (qt 53)) 4]) (
 .cond (qt 54) (
  .seq (
  .ops [sop nb 6 (.assign (.const (.bool false))) 4]) (
  .ret)) (
  .skip))) (
 .seq (
 .ops [qld nb 55 25 3,
 qcl nb 56 22 #[qt 55] #[25] 29,
 qsg nb 12 56 29]) (
 .seq (
 .seq (
 .ops [qmv nb 57 12 29,
 qbo nb 58 .eql 29 57 (qi 0) 29 4,
 qmv nb 59 58 4,
 gop nb 60 (.move (qt 1)) 56 59 true,
 gop nb 61 (.call { callee := .builtin .len, args := #[qt 60], argTypes := #[56] }) 3 59 true,
 gop nb 62 (.binOp .gtr 3 (qt 61) (qi 5) 3) 4 59 true,
 gop nb 63 (.move (qt 62)) 4 59 true,
 gop nb 64 (.move (qt 2)) 22 63 false,
 gop nb 65 (.call { callee := .builtin .len, args := #[qt 64], argTypes := #[22] }) 3 63 false,
 gop nb 66 (.binOp .gtr 3 (qt 65) (qi 6) 3) 4 63 false,
 gop nb 67 (.pick (qt 63) (.const (.bool true)) (qt 66)) 4 59 true,
 sop nb 68 (.pick (qt 59) (qt 67) (.const (.bool false))) 4]) (
 .cond (qt 68) (
  .ops [sop nb 12 (.assign (qi 5)) 29]) (
  .skip))) (
 .seq (
 .seq (
 .ops [qmv nb 69 12 29,
 qbo nb 70 .eql 29 69 (qi 0) 29 4]) (
 .cond (qt 70) (
  .ops [qld nb 71 25 3,
 qmv nb 72 1 56,
 qcl nb 73 41 #[qt 71, qt 72] #[25, 56] 29,
 qsg nb 12 73 29]) (
  .skip))) (
 .seq (
 .seq (
 .ops [sop nb 13 (.assign (qi 0)) 3]) (
 .block 0 (
  .loop (
   .seq (
   .seq (
   .ops [qmv nb 74 13 3,
 qmv nb 75 2 22,
 qln nb 76 #[qt 75] #[22] 3,
 qbo nb 77 .lss 3 74 (qt 76) 3 4,
 qmv nb 78 77 4,
 gop nb 79 (.move (qt 12)) 29 78 true,
 gop nb 80 (.binOp .eql 29 (qt 79) (qi 0) 29) 4 78 true,
 sop nb 81 (.pick (qt 78) (qt 80) (.const (.bool false))) 4]) (
   .cond (qt 81) (
    .skip) (
    .exit 0))) (
   .seq (
   .block 1 (
    .seq (
    .ops [qmv nb 84 2 22,
 qmv nb 85 13 3,
 qix nb 86 22 84 85 0,
 qld nb 87 3 86,
 qcl nb 88 36 #[qt 87, qi 1, qi 400] #[3, 3, 3] 4,
 sop nb 89 (.unOp .not 4 (qt 88)) 4]) (
    .cond (qt 89) (
     .ops [sop nb 12 (.assign (qi 3)) 29]) (
     .skip)))) (
   .ops [qmv nb 82 13 3,
 qbo nb 83 .add 3 82 (qi 1) 3 3,
 qsg nb 13 83 3])))))) (
 .seq (
 .seq (
 .ops [qmv nb 90 12 29,
 qbo nb 91 .eql 29 90 (qi 0) 29 4]) (
 .cond (qt 91) (
  .seq (
  .seq (
  .ops [qld nb 93 25 3,
 qmv nb 94 1 56,
 qmv nb 95 2 22,
 qcl nb 96 44 #[qt 93, qt 94, qt 95] #[25, 56, 22] 51,
 qmv nb 92 96 51,
 qex nb 97 92 0 22,
 qex nb 98 92 1 4,
 qsg nb 14 97 22,
 qsg nb 15 98 4]) (
  .seq (
  .ops [qmv nb 99 15 4]) (
  .cond (qt 99) (
   .seq (
   .ops [qmv nb 100 11 29,
 qbo nb 101 .eql 29 100 (qi 0) 29 4,
 qmv nb 102 101 4,
 gop nb 103 (.move (qt 10)) 22 102 true,
 gop nb 104 (.move (qt 14)) 22 102 true,
 gop nb 105 (.call { callee := .value (.func 24), args := #[qt 103, qt 104], argTypes := #[22, 22] }) 4 102 true,
 sop nb 106 (.pick (qt 102) (qt 105) (.const (.bool false))) 4,
 qmv nb 107 106 4,
 gop nb 108 (.call { callee := .value (.func 17), args := #[], argTypes := #[] }) 4 107 true,
 sop nb 109 (.pick (qt 107) (qt 108) (.const (.bool false))) 4,
 qsg nb 6 109 4]) (
   .ret)) (
   .skip)))) (
  .ops [sop nb 12 (.assign (qi 9)) 29])) (
  .skip))) (
 .seq (
 .ops [qmv nb 110 11 29,
 qmv nb 111 12 29,
 qbo nb 112 .eql 29 110 (qt 111) 29 4,
 qmv nb 113 112 4,
 gop nb 114 (.move (qt 10)) 22 113 true,
 gop nb 115 (.call { callee := .builtin .len, args := #[qt 114], argTypes := #[22] }) 3 113 true,
 gop nb 116 (.binOp .eql 3 (qt 115) (qi 0) 3) 4 113 true,
 sop nb 117 (.pick (qt 113) (qt 116) (.const (.bool false))) 4,
 qmv nb 118 117 4,
 gop nb 119 (.call { callee := .value (.func 17), args := #[], argTypes := #[] }) 4 118 true,
 sop nb 120 (.pick (qt 118) (qt 119) (.const (.bool false))) 4,
 qsg nb 6 120 4]) (
 .ret)))))))))))
@[go_sem] theorem rs7 : Go.Proofs.Try.f7.results.toList = [.tmp 6] := by kernel_rfl
theorem k7 (nb : Nat) : sk nb Go.Proofs.Try.f7.ntmps (Go.Proofs.Try.f7.body.getD .skip) = some (c7 nb) := by kernel_rfl
theorem w7 {a : List Arg} {r : RV} (h : W Q (c7 0) [] ⟨ρ0 (a.map fun a => a.m.lv), h0⟩ (retG Q Go.Proofs.Try.f7.results.toList (retF r))) (l : Nat.ble a.length Go.Proofs.Try.f7.ntmps = true := by kernel_rfl) : Fn Q 7 a r := fn_intro Go.Proofs.Try.func7 rfl (by kernel_rfl) mix (k7 0) (Nat.le_of_ble_eq_true l) h
end S04

