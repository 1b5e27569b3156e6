/- A part of the proof: C04a0, C04g0. -/
import Derived.Test.YtncbkgbdpaibmaaF04
set_option linter.unusedVariables false
set_option linter.unusedSimpArgs false
set_option maxRecDepth 20000
namespace S04
open Go Abs
noncomputable def c3 (nb : Nat) : SC :=
 .seq (
 .ops [sop nb 3 (.box 25 (qt 0)) 0,
 sop nb 6 (.assign (.const (.bool false))) 4]) (
 .seq (
 .seq (
 .ops [qld nb 18 25 3,
 qmv nb 19 1 22,
 qmv nb 20 2 22,
 sop nb 21 (.buildSlice 56 2 #[(0, qt 19), (1, qt 20)]) 56,
 qcl nb 22 16 #[qt 18, qt 21] #[25, 56] 4]) (
 .cond (qt 22) (
  .seq (
  .ops [qcl nb 23 17 #[] #[] 4,
 qsg nb 6 23 4]) (
  .ret)) (
  .skip))) (
 .seq (
 .ops [qld nb 24 25 3,
 qcl nb 25 18 #[qt 24] #[25] 25,
 sop nb 26 (.buildSlice 22 0 #[]) 22,
 qmv nb 27 1 22,
 sop nb 28 (.call { callee := .builtin .append, args := #[qt 26, qt 27], argTypes := #[22, 22] }) 22,
 sop nb 29 (.buildSlice 22 0 #[]) 22,
 qmv nb 30 2 22,
 sop nb 31 (.call { callee := .builtin .append, args := #[qt 29, qt 30], argTypes := #[22, 22] }) 22,
 sop nb 7 (.alloc 25) 0,
 nop (.store 25 (qt 7) (qt 25)) 0,
 qsg nb 8 28 22,
 qsg nb 9 31 22]) (
 .seq (
 .ops [qld nb 32 25 7,
 qcl nb 33 19 #[qt 32] #[25] 29,
 qsg nb 10 33 29]) (
 .seq (
 .ops [qld nb 35 25 7,
 qmv nb 36 8 22,
 qcl nb 37 20 #[qt 35, qt 36] #[25, 22] 31,
 qmv nb 34 37 31,
 qex nb 38 34 0 3,
 qex nb 39 34 1 29,
 qsg nb 11 38 3,
 qsg nb 12 39 29]) (
 .seq (
 .ops [qld nb 41 25 7,
 qmv nb 42 8 22,
 qmv nb 43 9 22,
 qcl nb 44 21 #[qt 41, qt 42, qt 43] #[25, 22, 22] 33,
 qmv nb 40 44 33,
 qex nb 45 40 0 22,
 qex nb 46 40 1 3,
 qex nb 47 40 2 29,
 qsg nb 13 45 22,
 qsg nb 14 46 3,
 qsg nb 15 47 29]) (
 .seq (
 .ops [qld nb 48 25 3,
 qcl nb 49 22 #[qt 48] #[25] 29,
 qsg nb 16 49 29]) (
 .seq (
 .seq (
 .ops [qld nb 50 25 7,
 qld nb 51 25 3,
 qcl nb 52 23 #[qt 50, qt 51] #[25, 25] 4,
 sop nb 53 (.unOp .not 4 (qt 52)) 4,
 qmv nb 54 53 4,
 gop nb 55 (.move (qt 8)) 22 54 false,
 gop nb 56 (.move (qt 1)) 22 54 false,
 gop nb 57 (.call { callee := .value (.func 24), args := #[qt 55, qt 56], argTypes := #[22, 22] }) 4 54 false,
 gop nb 58 (.unOp .not 4 (qt 57)) 4 54 false,
 sop nb 59 (.pick (qt 54) (.const (.bool true)) (qt 58)) 4,
 qmv nb 60 59 4,
 gop nb 61 (.move (qt 9)) 22 60 false,
 gop nb 62 (.move (qt 2)) 22 60 false,
 gop nb 63 (.call { callee := .value (.func 24), args := #[qt 61, qt 62], argTypes := #[22, 22] }) 4 60 false,
 gop nb 64 (.unOp .not 4 (qt 63)) 4 60 false,
 sop nb 65 (.pick (qt 60) (.const (.bool true)) (qt 64)) 4,
 qmv nb 66 65 4,
 gop nb 67 (.move (qt 10)) 29 66 false,
 gop nb 68 (.move (qt 16)) 29 66 false,
 gop nb 69 (.binOp .neq 29 (qt 67) (qt 68) 29) 4 66 false,
 sop nb 70 (.pick (qt 66) (.const (.bool true)) (qt 69)) 4]) (
 .cond (qt 70) (
  .seq (
  .ops [sop nb 6 (.assign (.const (.bool false))) 4]) (
  .ret)) (
  .skip))) (
 .seq (
 .seq (
 .ops [qmv nb 71 16 29,
 qbo nb 72 .eql 29 71 (qi 0) 29 4,
 qmv nb 73 72 4,
 gop nb 74 (.load 25 (qt 3)) 25 73 true,
 gop nb 75 (.move (qt 1)) 22 73 true,
 gop nb 76 (.call { callee := .value (.func 25), args := #[qt 74, qt 75, (.const (.bool false))], argTypes := #[25, 22, 4] }) 4 73 true,
 gop nb 77 (.unOp .not 4 (qt 76)) 4 73 true,
 sop nb 78 (.pick (qt 73) (qt 77) (.const (.bool false))) 4]) (
 .cond (qt 78) (
  .ops [sop nb 16 (.assign (qi 4)) 29]) (
  .skip))) (
 .seq (
 .seq (
 .ops [qmv nb 79 12 29,
 qmv nb 80 16 29,
 qbo nb 81 .neq 29 79 (qt 80) 29 4,
 qmv nb 82 81 4,
 gop nb 83 (.move (qt 16)) 29 82 false,
 gop nb 84 (.binOp .neq 29 (qt 83) (qi 0) 29) 4 82 false,
 gop nb 85 (.move (qt 84)) 4 82 false,
 gop nb 86 (.move (qt 11)) 3 85 true,
 gop nb 87 (.binOp .neq 3 (qt 86) (qi 0) 3) 4 85 true,
 gop nb 88 (.pick (qt 85) (qt 87) (.const (.bool false))) 4 82 false,
 sop nb 89 (.pick (qt 82) (.const (.bool true)) (qt 88)) 4,
 qmv nb 90 89 4,
 gop nb 91 (.move (qt 16)) 29 90 false,
 gop nb 92 (.binOp .eql 29 (qt 91) (qi 0) 29) 4 90 false,
 gop nb 93 (.move (qt 92)) 4 90 false,
 gop nb 94 (.move (qt 11)) 3 93 true,
 gop nb 95 (.load 25 (qt 3)) 25 93 true,
 gop nb 96 (.move (qt 1)) 22 93 true,
 gop nb 97 (.call { callee := .value (.func 26), args := #[qt 95, qt 96], argTypes := #[25, 22] }) 3 93 true,
 gop nb 98 (.binOp .neq 3 (qt 94) (qt 97) 3) 4 93 true,
 gop nb 99 (.pick (qt 93) (qt 98) (.const (.bool false))) 4 90 false,
 sop nb 100 (.pick (qt 90) (.const (.bool true)) (qt 99)) 4]) (
 .cond (qt 100) (
  .seq (
  .ops [sop nb 6 (.assign (.const (.bool false))) 4]) (
  .ret)) (
  .skip))) (
 .seq (
 .seq (
 .ops [qmv nb 101 16 29,
 qbo nb 102 .eql 29 101 (qi 0) 29 4,
 qmv nb 103 102 4,
 gop nb 104 (.move (qt 1)) 22 103 true,
 gop nb 105 (.move (qt 2)) 22 103 true,
 gop nb 106 (.call { callee := .value (.func 27), args := #[qt 104, qt 105], argTypes := #[22, 22] }) 4 103 true,
 gop nb 107 (.unOp .not 4 (qt 106)) 4 103 true,
 sop nb 108 (.pick (qt 103) (qt 107) (.const (.bool false))) 4]) (
 .cond (qt 108) (
  .ops [sop nb 16 (.assign (qi 4)) 29]) (
  .skip))) (
 .seq (
 .seq (
 .ops [qmv nb 109 16 29,
 qbo nb 110 .neq 29 109 (qi 0) 29 4]) (
 .cond (qt 110) (
  .seq (
  .ops [qmv nb 111 15 29,
 qmv nb 112 16 29,
 qbo nb 113 .eql 29 111 (qt 112) 29 4,
 qmv nb 114 113 4,
 gop nb 115 (.move (qt 13)) 22 114 true,
 gop nb 116 (.call { callee := .builtin .len, args := #[qt 115], argTypes := #[22] }) 3 114 true,
 gop nb 117 (.binOp .eql 3 (qt 116) (qi 0) 3) 4 114 true,
 sop nb 118 (.pick (qt 114) (qt 117) (.const (.bool false))) 4,
 qmv nb 119 118 4,
 gop nb 120 (.move (qt 14)) 3 119 true,
 gop nb 121 (.binOp .eql 3 (qt 120) (qi 0) 3) 4 119 true,
 sop nb 122 (.pick (qt 119) (qt 121) (.const (.bool false))) 4,
 qmv nb 123 122 4,
 gop nb 124 (.call { callee := .value (.func 17), args := #[], argTypes := #[] }) 4 123 true,
 sop nb 125 (.pick (qt 123) (qt 124) (.const (.bool false))) 4,
 qsg nb 6 125 4]) (
  .ret)) (
  .skip))) (
 .seq (
 .ops [qld nb 126 25 3,
 qmv nb 127 1 22,
 qmv nb 128 2 22,
 qcl nb 129 28 #[qt 126, qt 127, qt 128] #[25, 22, 22] 22,
 qsg nb 17 129 22]) (
 .seq (
 .ops [qmv nb 130 15 29,
 qbo nb 131 .eql 29 130 (qi 0) 29 4,
 qmv nb 132 131 4,
 gop nb 133 (.move (qt 13)) 22 132 true,
 gop nb 134 (.move (qt 17)) 22 132 true,
 gop nb 135 (.call { callee := .value (.func 24), args := #[qt 133, qt 134], argTypes := #[22, 22] }) 4 132 true,
 sop nb 136 (.pick (qt 132) (qt 135) (.const (.bool false))) 4,
 qmv nb 137 136 4,
 gop nb 138 (.move (qt 14)) 3 137 true,
 gop nb 139 (.move (qt 17)) 22 137 true,
 gop nb 140 (.call { callee := .value (.func 29), args := #[qt 139], argTypes := #[22] }) 3 137 true,
 gop nb 141 (.binOp .eql 3 (qt 138) (qt 140) 3) 4 137 true,
 sop nb 142 (.pick (qt 137) (qt 141) (.const (.bool false))) 4,
 qmv nb 143 142 4,
 gop nb 144 (.call { callee := .value (.func 17), args := #[], argTypes := #[] }) 4 143 true,
 sop nb 145 (.pick (qt 143) (qt 144) (.const (.bool false))) 4,
 qsg nb 6 145 4]) (
 .ret))))))))))))))
@[go_sem] theorem rs3 : Go.Proofs.Try.f3.results.toList = [.tmp 6] := by kernel_rfl
theorem k3 (nb : Nat) : sk nb Go.Proofs.Try.f3.ntmps (Go.Proofs.Try.f3.body.getD .skip) = some (c3 nb) := by kernel_rfl
theorem w3 {a : List Arg} {r : RV} (h : W Q (c3 0) [] ⟨ρ0 (a.map fun a => a.m.lv), h0⟩ (retG Q Go.Proofs.Try.f3.results.toList (retF r))) (l : Nat.ble a.length Go.Proofs.Try.f3.ntmps = true := by kernel_rfl) : Fn Q 3 a r := fn_intro Go.Proofs.Try.func3 rfl (by kernel_rfl) mix (k3 0) (Nat.le_of_ble_eq_true l) h
end S04

namespace S04
open Go Abs
noncomputable def c9 (nb : Nat) : SC :=
 .seq (
 .ops [sop nb 3 (.box 25 (qt 0)) 0,
 sop nb 4 (.box 66 (qt 1)) 0,
 sop nb 5 (.box 71 (qt 2)) 0,
 sop nb 6 (.assign (.const (.bool false))) 4]) (
 .seq (
 .opsD [sop nb 17 (.indexAddr 66 (qt 4) (qi 0)) 0,
 qld nb 18 22 17,
 sop nb 19 (.indexAddr 66 (qt 4) (qi 1)) 0,
 qld nb 20 22 19,
 qsg nb 7 18 22,
 qsg nb 8 20 22] [(2, 4), (3, 4)]) (
 .seq (
 .seq (
 .ops [qld nb 21 25 3,
 qmv nb 22 7 22,
 qmv nb 23 8 22,
 sop nb 24 (.buildSlice 56 2 #[(0, qt 22), (1, qt 23)]) 56,
 qcl nb 25 16 #[qt 21, qt 24] #[25, 56] 4]) (
 .cond (qt 25) (
  .seq (
  .ops [qcl nb 26 17 #[] #[] 4,
 qsg nb 6 26 4]) (
  .ret)) (
  .skip))) (
 .seq (
 .ops [qld nb 27 25 3,
 qcl nb 28 18 #[qt 27] #[25] 25,
 sop nb 29 (.buildSlice 22 0 #[]) 22,
 qmv nb 30 7 22,
 sop nb 31 (.call { callee := .builtin .append, args := #[qt 29, qt 30], argTypes := #[22, 22] }) 22,
 sop nb 32 (.buildSlice 22 0 #[]) 22,
 qmv nb 33 8 22,
 sop nb 34 (.call { callee := .builtin .append, args := #[qt 32, qt 33], argTypes := #[22, 22] }) 22,
 sop nb 9 (.alloc 25) 0,
 nop (.store 25 (qt 9) (qt 28)) 0,
 qsg nb 10 31 22,
 qsg nb 11 34 22]) (
 .seq (
 .ops [qld nb 36 25 9,
 qmv nb 37 10 22,
 qmv nb 38 11 22,
 qld nb 39 71 5,
 qcl nb 40 47 #[qt 36, qt 37, qt 38, qt 39] #[25, 22, 22, 71] 72,
 qmv nb 35 40 72,
 qex nb 41 35 0 56,
 qex nb 42 35 1 29,
 qsg nb 12 41 56,
 qsg nb 13 42 29]) (
 .seq (
 .seq (
 .ops [qld nb 43 25 9,
 qld nb 44 25 3,
 qcl nb 45 23 #[qt 43, qt 44] #[25, 25] 4,
 sop nb 46 (.unOp .not 4 (qt 45)) 4,
 qmv nb 47 46 4,
 gop nb 48 (.move (qt 10)) 22 47 false,
 gop nb 49 (.move (qt 7)) 22 47 false,
 gop nb 50 (.call { callee := .value (.func 24), args := #[qt 48, qt 49], argTypes := #[22, 22] }) 4 47 false,
 gop nb 51 (.unOp .not 4 (qt 50)) 4 47 false,
 sop nb 52 (.pick (qt 47) (.const (.bool true)) (qt 51)) 4,
 qmv nb 53 52 4,
 gop nb 54 (.move (qt 11)) 22 53 false,
 gop nb 55 (.move (qt 8)) 22 53 false,
 gop nb 56 (.call { callee := .value (.func 24), args := #[qt 54, qt 55], argTypes := #[22, 22] }) 4 53 false,
 gop nb 57 (.unOp .not 4 (qt 56)) 4 53 false,
 sop nb 58 (.pick (qt 53) (.const (.bool true)) (qt 57)) 4]) (
 .cond (qt 58) (
  .seq (
  .ops [sop nb 6 (.assign (.const (.bool false))) 4]) (
  .ret)) (
  .skip))) (
 .seq (
 .ops [qld nb 59 25 3,
 qcl nb 60 22 #[qt 59] #[25] 29,
 qsg nb 14 60 29]) (
 .seq (
 .seq (
 .ops [qmv nb 61 14 29,
 qbo nb 62 .eql 29 61 (qi 0) 29 4,
 qmv nb 63 62 4,
 gop nb 64 (.load 25 (qt 3)) 25 63 true,
 gop nb 65 (.move (qt 7)) 22 63 true,
 gop nb 66 (.call { callee := .value (.func 25), args := #[qt 64, qt 65, (.const (.bool true))], argTypes := #[25, 22, 4] }) 4 63 true,
 gop nb 67 (.unOp .not 4 (qt 66)) 4 63 true,
 gop nb 68 (.move (qt 67)) 4 63 true,
 gop nb 69 (.move (qt 7)) 22 68 false,
 gop nb 70 (.move (qt 8)) 22 68 false,
 gop nb 71 (.call { callee := .value (.func 27), args := #[qt 69, qt 70], argTypes := #[22, 22] }) 4 68 false,
 gop nb 72 (.unOp .not 4 (qt 71)) 4 68 false,
 gop nb 73 (.pick (qt 68) (.const (.bool true)) (qt 72)) 4 63 true,
 sop nb 74 (.pick (qt 63) (qt 73) (.const (.bool false))) 4]) (
 .cond (qt 74) (
  .ops [sop nb 14 (.assign (qi 4)) 29]) (
  .skip))) (
 .seq (
 .seq (
 .ops [qmv nb 75 14 29,
 qbo nb 76 .eql 29 75 (qi 0) 29 4,
 qmv nb 77 76 4,
 gop nb 78 (.move (qt 7)) 22 77 true,
 gop nb 79 (.call { callee := .value (.func 48), args := #[qt 78], argTypes := #[22] }) 3 77 true,
 gop nb 80 (.binOp .gtr 3 (qt 79) (qi 2) 3) 4 77 true,
 sop nb 81 (.pick (qt 77) (qt 80) (.const (.bool false))) 4]) (
 .cond (qt 81) (
  .ops [sop nb 14 (.assign (qi 8)) 29]) (
  .skip))) (
 .seq (
 .seq (
 .ops [qmv nb 82 14 29,
 qbo nb 83 .eql 29 82 (qi 0) 29 4,
 qmv nb 84 83 4,
 gop nb 85 (.fieldAddr 71 (qt 5) 0) 0 84 true,
 gop nb 86 (.load 3 (qt 85)) 3 84 true,
 gop nb 87 (.fieldAddr 71 (qt 5) 1) 0 84 true,
 gop nb 88 (.load 3 (qt 87)) 3 84 true,
 gop nb 89 (.call { callee := .value (.func 36), args := #[qt 86, qi 1, qt 88], argTypes := #[3, 3, 3] }) 4 84 true,
 gop nb 90 (.unOp .not 4 (qt 89)) 4 84 true,
 gop nb 91 (.move (qt 90)) 4 84 true,
 gop nb 92 (.fieldAddr 71 (qt 5) 1) 0 91 false,
 gop nb 93 (.load 3 (qt 92)) 3 91 false,
 gop nb 94 (.binOp .gtr 3 (qt 93) (qi 400) 3) 4 91 false,
 gop nb 95 (.pick (qt 91) (.const (.bool true)) (qt 94)) 4 84 true,
 sop nb 96 (.pick (qt 84) (qt 95) (.const (.bool false))) 4]) (
 .cond (qt 96) (
  .ops [sop nb 14 (.assign (qi 3)) 29]) (
  .skip))) (
 .seq (
 .seq (
 .ops [qmv nb 97 14 29,
 qbo nb 98 .eql 29 97 (qi 0) 29 4]) (
 .cond (qt 98) (
  .seq (
  .seq (
  .ops [qld nb 100 25 3,
 qmv nb 101 7 22,
 qmv nb 102 8 22,
 qld nb 103 71 5,
 qcl nb 104 49 #[qt 100, qt 101, qt 102, qt 103] #[25, 22, 22, 71] 74,
 qmv nb 99 104 74,
 qex nb 105 99 0 56,
 qex nb 106 99 1 4,
 qsg nb 15 105 56,
 qsg nb 16 106 4]) (
  .seq (
  .ops [qmv nb 107 16 4]) (
  .cond (qt 107) (
   .seq (
   .ops [qmv nb 108 13 29,
 qbo nb 109 .eql 29 108 (qi 0) 29 4,
 qmv nb 110 109 4,
 gop nb 111 (.move (qt 12)) 56 110 true,
 gop nb 112 (.move (qt 15)) 56 110 true,
 gop nb 113 (.call { callee := .value (.func 40), args := #[qt 111, qt 112], argTypes := #[56, 56] }) 4 110 true,
 sop nb 114 (.pick (qt 110) (qt 113) (.const (.bool false))) 4,
 qmv nb 115 114 4,
 gop nb 116 (.call { callee := .value (.func 17), args := #[], argTypes := #[] }) 4 115 true,
 sop nb 117 (.pick (qt 115) (qt 116) (.const (.bool false))) 4,
 qsg nb 6 117 4]) (
   .ret)) (
   .skip)))) (
  .ops [sop nb 14 (.assign (qi 9)) 29])) (
  .skip))) (
 .seq (
 .ops [qmv nb 118 13 29,
 qmv nb 119 14 29,
 qbo nb 120 .eql 29 118 (qt 119) 29 4,
 qmv nb 121 120 4,
 gop nb 122 (.move (qt 12)) 56 121 true,
 gop nb 123 (.call { callee := .builtin .len, args := #[qt 122], argTypes := #[56] }) 3 121 true,
 gop nb 124 (.binOp .eql 3 (qt 123) (qi 0) 3) 4 121 true,
 sop nb 125 (.pick (qt 121) (qt 124) (.const (.bool false))) 4,
 qmv nb 126 125 4,
 gop nb 127 (.call { callee := .value (.func 17), args := #[], argTypes := #[] }) 4 126 true,
 sop nb 128 (.pick (qt 126) (qt 127) (.const (.bool false))) 4,
 qsg nb 6 128 4]) (
 .ret))))))))))))
@[go_sem] theorem rs9 : Go.Proofs.Try.f9.results.toList = [.tmp 6] := by kernel_rfl
theorem k9 (nb : Nat) : sk nb Go.Proofs.Try.f9.ntmps (Go.Proofs.Try.f9.body.getD .skip) = some (c9 nb) := by kernel_rfl
theorem w9 {a : List Arg} {r : RV} (h : W Q (c9 0) [] ⟨ρ0 (a.map fun a => a.m.lv), h0⟩ (retG Q Go.Proofs.Try.f9.results.toList (retF r))) (l : Nat.ble a.length Go.Proofs.Try.f9.ntmps = true := by kernel_rfl) : Fn Q 9 a r := fn_intro Go.Proofs.Try.func9 rfl (by kernel_rfl) mix (k9 0) (Nat.le_of_ble_eq_true l) h
end S04

