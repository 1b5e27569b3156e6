/- A part of the proof: C04b0. -/
import Derived.Test.YtncbkgbdpaibmaaF04
set_option linter.unusedVariables false
set_option linter.unusedSimpArgs false
set_option maxRecDepth 20000
namespace S04
open Go Abs
noncomputable def c4 (nb : Nat) : SC :=
 .seq (
 .ops [sop nb 3 (.box 25 (qt 0)) 0,
 sop nb 6 (.assign (.const (.bool false))) 4]) (
 .seq (
 .seq (
 .ops [qld nb 15 25 3,
 qmv nb 16 1 22,
 sop nb 17 (.buildSlice 56 1 #[(0, qt 16)]) 56,
 qcl nb 18 16 #[qt 15, qt 17] #[25, 56] 4]) (
 .cond (qt 18) (
  .seq (
  .ops [qcl nb 19 17 #[] #[] 4,
 qsg nb 6 19 4]) (
  .ret)) (
  .skip))) (
 .seq (
 .ops [qld nb 20 25 3,
 qcl nb 21 18 #[qt 20] #[25] 25,
 sop nb 22 (.buildSlice 22 0 #[]) 22,
 qmv nb 23 1 22,
 sop nb 24 (.call { callee := .builtin .append, args := #[qt 22, qt 23], argTypes := #[22, 22] }) 22,
 sop nb 7 (.alloc 25) 0,
 nop (.store 25 (qt 7) (qt 21)) 0,
 qsg nb 8 24 22]) (
 .seq (
 .ops [qld nb 26 25 7,
 qmv nb 27 8 22,
 qmv nb 28 2 3,
 qcl nb 29 30 #[qt 26, qt 27, qt 28] #[25, 22, 3] 33,
 qmv nb 25 29 33,
 qex nb 30 25 0 22,
 qex nb 31 25 1 3,
 qex nb 32 25 2 29,
 qsg nb 9 30 22,
 qsg nb 10 31 3,
 qsg nb 11 32 29]) (
 .seq (
 .seq (
 .ops [qld nb 33 25 7,
 qld nb 34 25 3,
 qcl nb 35 23 #[qt 33, qt 34] #[25, 25] 4,
 sop nb 36 (.unOp .not 4 (qt 35)) 4,
 qmv nb 37 36 4,
 gop nb 38 (.move (qt 8)) 22 37 false,
 gop nb 39 (.move (qt 1)) 22 37 false,
 gop nb 40 (.call { callee := .value (.func 24), args := #[qt 38, qt 39], argTypes := #[22, 22] }) 4 37 false,
 gop nb 41 (.unOp .not 4 (qt 40)) 4 37 false,
 sop nb 42 (.pick (qt 37) (.const (.bool true)) (qt 41)) 4]) (
 .cond (qt 42) (
  .seq (
  .ops [sop nb 6 (.assign (.const (.bool false))) 4]) (
  .ret)) (
  .skip))) (
 .seq (
 .ops [qld nb 43 25 3,
 qmv nb 44 1 22,
 qmv nb 45 2 3,
 qcl nb 46 31 #[qt 43, qt 44, qt 45] #[25, 22, 3] 29,
 qsg nb 12 46 29]) (
 .seq (
 .seq (
 .ops [qmv nb 47 12 29,
 qbo nb 48 .eql 29 47 (qi 0) 29 4,
 qmv nb 49 48 4,
 gop nb 50 (.load 25 (qt 3)) 25 49 true,
 gop nb 51 (.move (qt 1)) 22 49 true,
 gop nb 52 (.call { callee := .value (.func 26), args := #[qt 50, qt 51], argTypes := #[25, 22] }) 3 49 true,
 gop nb 53 (.move (qt 2)) 3 49 true,
 gop nb 54 (.binOp .gtr 3 (qt 52) (qt 53) 3) 4 49 true,
 sop nb 55 (.pick (qt 49) (qt 54) (.const (.bool false))) 4]) (
 .cond (qt 55) (
  .ops [sop nb 12 (.assign (qi 8)) 29]) (
  .skip))) (
 .seq (
 .seq (
 .ops [qmv nb 56 12 29,
 qbo nb 57 .neq 29 56 (qi 0) 29 4]) (
 .cond (qt 57) (
  .seq (
  .ops [qmv nb 58 11 29,
 qmv nb 59 12 29,
 qbo nb 60 .eql 29 58 (qt 59) 29 4,
 qmv nb 61 60 4,
 gop nb 62 (.move (qt 9)) 22 61 true,
 gop nb 63 (.call { callee := .builtin .len, args := #[qt 62], argTypes := #[22] }) 3 61 true,
 gop nb 64 (.binOp .eql 3 (qt 63) (qi 0) 3) 4 61 true,
 sop nb 65 (.pick (qt 61) (qt 64) (.const (.bool false))) 4,
 qmv nb 66 65 4,
 gop nb 67 (.move (qt 10)) 3 66 true,
 gop nb 68 (.binOp .eql 3 (qt 67) (qi 0) 3) 4 66 true,
 sop nb 69 (.pick (qt 66) (qt 68) (.const (.bool false))) 4,
 qmv nb 70 69 4,
 gop nb 71 (.call { callee := .value (.func 17), args := #[], argTypes := #[] }) 4 70 true,
 sop nb 72 (.pick (qt 70) (qt 71) (.const (.bool false))) 4,
 qsg nb 6 72 4]) (
  .ret)) (
  .skip))) (
 .seq (
 .seq (
 .ops [qmv nb 73 1 22,
 qln nb 74 #[qt 73] #[22] 3,
 qbo nb 75 .eql 3 74 (qi 1) 3 4]) (
 .cond (qt 75) (
  .seq (
  .ops [qmv nb 76 11 29,
 qbo nb 77 .eql 29 76 (qi 0) 29 4,
 qmv nb 78 77 4,
 gop nb 79 (.move (qt 9)) 22 78 true,
 gop nb 80 (.call { callee := .builtin .len, args := #[qt 79], argTypes := #[22] }) 3 78 true,
 gop nb 81 (.binOp .eql 3 (qt 80) (qi 0) 3) 4 78 true,
 sop nb 82 (.pick (qt 78) (qt 81) (.const (.bool false))) 4,
 qmv nb 83 82 4,
 gop nb 84 (.move (qt 10)) 3 83 true,
 gop nb 85 (.binOp .eql 3 (qt 84) (qi 0) 3) 4 83 true,
 sop nb 86 (.pick (qt 83) (qt 85) (.const (.bool false))) 4,
 qmv nb 87 86 4,
 gop nb 88 (.call { callee := .value (.func 17), args := #[], argTypes := #[] }) 4 87 true,
 sop nb 89 (.pick (qt 87) (qt 88) (.const (.bool false))) 4,
 qsg nb 6 89 4]) (
  .ret)) (
  .skip))) (
 .seq (
 .ops [qld nb 91 25 3,
 qmv nb 92 1 22,
 qmv nb 93 2 3,
 qcl nb 94 32 #[qt 91, qt 92, qt 93] #[25, 22, 3] 44,
 qmv nb 90 94 44,
 qex nb 95 90 0 22,
 qex nb 96 90 1 3,
 qsg nb 13 95 22,
 qsg nb 14 96 3]) (
 .seq (
 .ops [qmv nb 97 11 29,
 qbo nb 98 .eql 29 97 (qi 0) 29 4,
 qmv nb 99 98 4,
 gop nb 100 (.move (qt 9)) 22 99 true,
 gop nb 101 (.move (qt 13)) 22 99 true,
 gop nb 102 (.call { callee := .value (.func 24), args := #[qt 100, qt 101], argTypes := #[22, 22] }) 4 99 true,
 sop nb 103 (.pick (qt 99) (qt 102) (.const (.bool false))) 4,
 qmv nb 104 103 4,
 gop nb 105 (.move (qt 10)) 3 104 true,
 gop nb 106 (.move (qt 14)) 3 104 true,
 gop nb 107 (.binOp .eql 3 (qt 105) (qt 106) 3) 4 104 true,
 sop nb 108 (.pick (qt 104) (qt 107) (.const (.bool false))) 4,
 qmv nb 109 108 4,
 gop nb 110 (.call { callee := .value (.func 17), args := #[], argTypes := #[] }) 4 109 true,
 sop nb 111 (.pick (qt 109) (qt 110) (.const (.bool false))) 4,
 qsg nb 6 111 4]) (
 .ret)))))))))))
theorem k4 (nb : Nat) : sk nb Go.Proofs.Try.f4.ntmps (Go.Proofs.Try.f4.body.getD .skip) = some (c4 nb) := by kernel_rfl
theorem w4 {a : List Arg} {r : RV} (h : W Q (c4 0) [] ⟨ρ0 (a.map fun a => a.m.lv), h0⟩ (retG Q Go.Proofs.Try.f4.results.toList (retF r))) (l : Nat.ble a.length Go.Proofs.Try.f4.ntmps = true := by kernel_rfl) : Fn Q 4 a r := fn_intro Go.Proofs.Try.func4 rfl (by kernel_rfl) mix (k4 0) (Nat.le_of_ble_eq_true l) h
end S04

