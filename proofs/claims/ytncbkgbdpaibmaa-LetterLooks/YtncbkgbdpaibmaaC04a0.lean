/- A part of the proof: C04a0. -/
import Derived.Test.YtncbkgbdpaibmaaF04
set_option linter.unusedVariables false
set_option linter.unusedSimpArgs false
set_option maxRecDepth 20000
namespace S04
open Go Abs
noncomputable def c3 (nb : Nat) : SC :=
 .seq (
 .ops [sop nb 3 (.box 25 (qt 0)) 0,
 sop nb 6 (.assign (.const (.bool false))) 4]) (
 .seq (
 .seq (
 .ops [qld nb 18 25 3,
 qmv nb 19 1 22,
 qmv nb 20 2 22,
 sop nb 21 (.buildSlice 56 2 #[(0, qt 19), (1, qt 20)]) 56,
 qcl nb 22 16 #[qt 18, qt 21] #[25, 56] 4]) (
 .cond (qt 22) (
  .seq (
  .ops [qcl nb 23 17 #[] #[] 4,
 qsg nb 6 23 4]) (
  .ret)) (
  .skip))) (
 .seq (
 .ops [qld nb 24 25 3,
 qcl nb 25 18 #[qt 24] #[25] 25,
 sop nb 26 (.buildSlice 22 0 #[]) 22,
 qmv nb 27 1 22,
 sop nb 28 (.call { callee := .builtin .append, args := #[qt 26, qt 27], argTypes := #[22, 22] }) 22,
 sop nb 29 (.buildSlice 22 0 #[]) 22,
 qmv nb 30 2 22,
 sop nb 31 (.call { callee := .builtin .append, args := #[qt 29, qt 30], argTypes := #[22, 22] }) 22,
 sop nb 7 (.alloc 25) 0,
 nop (.store 25 (qt 7) (qt 25)) 0,
 qsg nb 8 28 22,
 qsg nb 9 31 22]) (
 .seq (
 .ops [qld nb 32 25 7,
 qcl nb 33 19 #[qt 32] #[25] 29,
 qsg nb 10 33 29]) (
 .seq (
 .ops [qld nb 35 25 7,
 qmv nb 36 8 22,
 qcl nb 37 20 #[qt 35, qt 36] #[25, 22] 31,
 qmv nb 34 37 31,
 qex nb 38 34 0 3,
 qex nb 39 34 1 29,
 qsg nb 11 38 3,
 qsg nb 12 39 29]) (
 .seq (
 .ops [qld nb 41 25 7,
 qmv nb 42 8 22,
 qmv nb 43 9 22,
 qcl nb 44 21 #[qt 41, qt 42, qt 43] #[25, 22, 22] 33,
 qmv nb 40 44 33,
 qex nb 45 40 0 22,
 qex nb 46 40 1 3,
 qex nb 47 40 2 29,
 qsg nb 13 45 22,
 qsg nb 14 46 3,
 qsg nb 15 47 29]) (
 .seq (
 .ops [qld nb 48 25 3,
 qcl nb 49 22 #[qt 48] #[25] 29,
 qsg nb 16 49 29]) (
 .seq (
 .seq (
 .ops [qld nb 50 25 7,
 qld nb 51 25 3,
 qcl nb 52 23 #[qt 50, qt 51] #[25, 25] 4,
 sop nb 53 (.unOp .not 4 (qt 52)) 4,
 qmv nb 54 53 4,
 gop nb 55 (.move (qt 8)) 22 54 false,
 gop nb 56 (.move (qt 1)) 22 54 false,
 gop nb 57 (.call { callee := .value (.func 24), args := #[qt 55, qt 56], argTypes := #[22, 22] }) 4 54 false,
 gop nb 58 (.unOp .not 4 (qt 57)) 4 54 false,
 sop nb 59 (.pick (qt 54) (.const (.bool true)) (qt 58)) 4,
 qmv nb 60 59 4,
 gop nb 61 (.move (qt 9)) 22 60 false,
 gop nb 62 (.move (qt 2)) 22 60 false,
 gop nb 63 (.call { callee := .value (.func 24), args := #[qt 61, qt 62], argTypes := #[22, 22] }) 4 60 false,
 gop nb 64 (.unOp .not 4 (qt 63)) 4 60 false,
 sop nb 65 (.pick (qt 60) (.const (.bool true)) (qt 64)) 4,
 qmv nb 66 65 4,
 gop nb 67 (.move (qt 10)) 29 66 false,
 gop nb 68 (.move (qt 16)) 29 66 false,
 gop nb 69 (.binOp .neq 29 (qt 67) (qt 68) 29) 4 66 false,
 sop nb 70 (.pick (qt 66) (.const (.bool true)) (qt 69)) 4]) (
 .cond (qt 70) (
  .seq (
  .ops [sop nb 6 (.assign (.const (.bool false))) 4]) (
  .ret)) (
  .skip))) (
 .seq (
 .seq (
 .ops [qmv nb 71 16 29,
 qbo nb 72 .eql 29 71 (qi 0) 29 4,
 qmv nb 73 72 4,
 gop nb 74 (.load 25 (qt 3)) 25 73 true,
 gop nb 75 (.move (qt 1)) 22 73 true,
 gop nb 76 (.call { callee := .value (.func 25), args := #[qt 74, qt 75, (.const (.bool false))], argTypes := #[25, 22, 4] }) 4 73 true,
 gop nb 77 (.unOp .not 4 (qt 76)) 4 73 true,
 sop nb 78 (.pick (qt 73) (qt 77) (.const (.bool false))) 4]) (
 .cond (qt 78) (
  .ops [sop nb 16 (.assign (qi 4)) 29]) (
  .skip))) (
 .seq (
 .seq (
 .ops [qmv nb 79 12 29,
 qmv nb 80 16 29,
 qbo nb 81 .neq 29 79 (qt 80) 29 4,
 qmv nb 82 81 4,
 gop nb 83 (.move (qt 16)) 29 82 false,
 gop nb 84 (.binOp .neq 29 (qt 83) (qi 0) 29) 4 82 false,
 gop nb 85 (.move (qt 84)) 4 82 false,
 gop nb 86 (.move (qt 11)) 3 85 true,
 gop nb 87 (.binOp .neq 3 (qt 86) (qi 0) 3) 4 85 true,
 gop nb 88 (.pick (qt 85) (qt 87) (.const (.bool false))) 4 82 false,
 sop nb 89 (.pick (qt 82) (.const (.bool true)) (qt 88)) 4,
 qmv nb 90 89 4,
 gop nb 91 (.move (qt 16)) 29 90 false,
 gop nb 92 (.binOp .eql 29 (qt 91) (qi 0) 29) 4 90 false,
 gop nb 93 (.move (qt 92)) 4 90 false,
 gop nb 94 (.move (qt 11)) 3 93 true,
 gop nb 95 (.load 25 (qt 3)) 25 93 true,
 gop nb 96 (.move (qt 1)) 22 93 true,
 gop nb 97 (.call { callee := .value (.func 26), args := #[qt 95, qt 96], argTypes := #[25, 22] }) 3 93 true,
 gop nb 98 (.binOp .neq 3 (qt 94) (qt 97) 3) 4 93 true,
 gop nb 99 (.pick (qt 93) (qt 98) (.const (.bool false))) 4 90 false,
 sop nb 100 (.pick (qt 90) (.const (.bool true)) (qt 99)) 4]) (
 .cond (qt 100) (
  .seq (
  .ops [sop nb 6 (.assign (.const (.bool false))) 4]) (
  .ret)) (
  .skip))) (
 .seq (
 .seq (
 .ops [qmv nb 101 16 29,
 qbo nb 102 .eql 29 101 (qi 0) 29 4,
 qmv nb 103 102 4,
 gop nb 104 (.move (qt 1)) 22 103 true,
 gop nb 105 (.move (qt 2)) 22 103 true,
 gop nb 106 (.call { callee := .value (.func 27), args := #[qt 104, qt 105], argTypes := #[22, 22] }) 4 103 true,
 gop nb 107 (.unOp .not 4 (qt 106)) 4 103 true,
 sop nb 108 (.pick (qt 103) (qt 107) (.const (.bool false))) 4]) (
 .cond (qt 108) (
  .ops [sop nb 16 (.assign (qi 4)) 29]) (
  .skip))) (
 .seq (
 .seq (
 .ops [qmv nb 109 16 29,
 qbo nb 110 .neq 29 109 (qi 0) 29 4]) (
 .cond (qt 110) (
  .seq (
  .ops [qmv nb 111 15 29,
 qmv nb 112 16 29,
 qbo nb 113 .eql 29 111 (qt 112) 29 4,
 qmv nb 114 113 4,
 gop nb 115 (.move (qt 13)) 22 114 true,
 gop nb 116 (.call { callee := .builtin .len, args := #[qt 115], argTypes := #[22] }) 3 114 true,
 gop nb 117 (.binOp .eql 3 (qt 116) (qi 0) 3) 4 114 true,
 sop nb 118 (.pick (qt 114) (qt 117) (.const (.bool false))) 4,
 qmv nb 119 118 4,
 gop nb 120 (.move (qt 14)) 3 119 true,
 gop nb 121 (.binOp .eql 3 (qt 120) (qi 0) 3) 4 119 true,
 sop nb 122 (.pick (qt 119) (qt 121) (.const (.bool false))) 4,
 qmv nb 123 122 4,
 gop nb 124 (.call { callee := .value (.func 17), args := #[], argTypes := #[] }) 4 123 true,
 sop nb 125 (.pick (qt 123) (qt 124) (.const (.bool false))) 4,
 qsg nb 6 125 4]) (
  .ret)) (
  .skip))) (
 .seq (
 .ops [qld nb 126 25 3,
 qmv nb 127 1 22,
 qmv nb 128 2 22,
 qcl nb 129 28 #[qt 126, qt 127, qt 128] #[25, 22, 22] 22,
 qsg nb 17 129 22]) (
 .seq (
 .ops [qmv nb 130 15 29,
 qbo nb 131 .eql 29 130 (qi 0) 29 4,
 qmv nb 132 131 4,
 gop nb 133 (.move (qt 13)) 22 132 true,
 gop nb 134 (.move (qt 17)) 22 132 true,
 gop nb 135 (.call { callee := .value (.func 24), args := #[qt 133, qt 134], argTypes := #[22, 22] }) 4 132 true,
 sop nb 136 (.pick (qt 132) (qt 135) (.const (.bool false))) 4,
 qmv nb 137 136 4,
 gop nb 138 (.move (qt 14)) 3 137 true,
 gop nb 139 (.move (qt 17)) 22 137 true,
 gop nb 140 (.call { callee := .value (.func 29), args := #[qt 139], argTypes := #[22] }) 3 137 true,
 gop nb 141 (.binOp .eql 3 (qt 138) (qt 140) 3) 4 137 true,
 sop nb 142 (.pick (qt 137) (qt 141) (.const (.bool false))) 4,
 qmv nb 143 142 4,
 gop nb 144 (.call { callee := .value (.func 17), args := #[], argTypes := #[] }) 4 143 true,
 sop nb 145 (.pick (qt 143) (qt 144) (.const (.bool false))) 4,
 qsg nb 6 145 4]) (
 .ret))))))))))))))
@[go_sem] theorem rs3 : Go.Proofs.Try.f3.results.toList = [.tmp 6] := by kernel_rfl
theorem k3 (nb : Nat) : sk nb Go.Proofs.Try.f3.ntmps (Go.Proofs.Try.f3.body.getD .skip) = some (c3 nb) := by kernel_rfl
theorem w3 {a : List Arg} {r : RV} (h : W Q (c3 0) [] ⟨ρ0 (a.map fun a => a.m.lv), h0⟩ (retG Q Go.Proofs.Try.f3.results.toList (retF r))) (l : Nat.ble a.length Go.Proofs.Try.f3.ntmps = true := by kernel_rfl) : Fn Q 3 a r := fn_intro Go.Proofs.Try.func3 rfl (by kernel_rfl) mix (k3 0) (Nat.le_of_ble_eq_true l) h
end S04

