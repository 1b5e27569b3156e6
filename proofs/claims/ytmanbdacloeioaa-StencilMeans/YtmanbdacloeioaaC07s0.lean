/- A part of the proof: C07s0, C07lg0. -/
import Derived.Test.YtmanbdacloeioaaF07
set_option linter.unusedVariables false
set_option linter.unusedSimpArgs false
set_option maxRecDepth 20000
namespace S07
open Go Abs
/-- smalto/smaltoref07.Meant -/
noncomputable def c27 (nb : Nat) : SC :=
 .seq (
 .ops [sop nb 4 (.box 24 (qt 0)) 0,
 sop nb 8 (.assign (.const (.slice none 0 0))) 26]) (
 .seq (
 .ops [sop nb 14 (.buildSlice 26 0 #[]) 26,
 qsg nb 9 14 26]) (
 .seq (
 .seq (
 .ops [sop nb 10 (.assign (qi 0)) 3]) (
 .block 0 (
  .loop (
   .seq (
   .seq (
   .ops [qmv nb 15 10 3,
 qmv nb 16 1 25,
 qln nb 17 #[qt 16] #[25] 3,
 qbo nb 18 .lss 3 15 (qt 17) 3 4]) (
   .cond (qt 18) (
    .skip) (
    .exit 0))) (
   .seq (
   .block 1 (
    .seq (
    .seq (
    .ops [qmv nb 21 1 25,
 qmv nb 22 10 3,
 qix nb 23 25 21 22 0,
 qld nb 24 26 23,
 qln nb 25 #[qt 24] #[26] 3,
 qmv nb 26 2 26,
 qln nb 27 #[qt 26] #[26] 3,
 qbo nb 28 .neq 3 25 (qt 27) 3 4]) (
    .cond (qt 28) (
     .exit 1) (
     .skip))) (
    .seq (
    .ops [qld nb 30 24 4,
 qmv nb 31 1 25,
 qmv nb 32 10 3,
 qix nb 33 25 31 32 0,
 qld nb 34 26 33,
 qmv nb 35 2 26,
 qcl nb 36 56 #[qt 30, qt 34, qt 35] #[24, 26, 26] 105,
 qmv nb 29 36 105,
 qex nb 37 29 0 26,
 qex nb 38 29 1 3,
 qex nb 39 29 2 4,
 qsg nb 11 37 26,
 qsg nb 12 38 3,
 qsg nb 13 39 4]) (
    .seq (
    .ops [qmv nb 40 13 4,
 qmv nb 41 40 4,
 gop nb 42 (.move (qt 12)) 3 41 true,
 gop nb 43 (.move (qt 3)) 3 41 true,
 gop nb 44 (.binOp .leq 3 (qt 42) (qt 43) 3) 4 41 true,
 sop nb 45 (.pick (qt 41) (qt 44) (.const (.bool false))) 4]) (
    .cond (qt 45) (
     .ops [qmv nb 46 9 26,
 qmv nb 47 10 3,
 sop nb 48 (.buildSlice 26 1 #[(0, qt 47)]) 26,
 sop nb 49 (.call { callee := .builtin .append, args := #[qt 46, qt 48], argTypes := #[26, 26] }) 26,
 qsg nb 9 49 26]) (
     .skip)))))) (
   .ops [qmv nb 19 10 3,
 qbo nb 20 .add 3 19 (qi 1) 3 3,
 qsg nb 10 20 3])))))) (
 .seq (
 .ops [qmv nb 50 9 26,
 qsg nb 8 50 26]) (
 .ret))))
@[go_sem] theorem rs27 : Go.Proofs.Try.f27.results.toList = [.tmp 8] := by kernel_rfl
theorem en27 : Enters Q 27 := enters_of Go.Proofs.Try.func27 rfl (by kernel_rfl)
theorem k27 (nb : Nat) : sk nb Go.Proofs.Try.f27.ntmps (Go.Proofs.Try.f27.body.getD .skip) = some (c27 nb) := by kernel_rfl
theorem w27 {a : List Arg} {r : RV} (h : W Q (c27 0) [] ⟨ρ0 (a.map fun a => a.m.lv), h0⟩ (retG Q Go.Proofs.Try.f27.results.toList (retF r))) (l : Nat.ble a.length Go.Proofs.Try.f27.ntmps = true := by kernel_rfl) : Fn Q 27 a r := fn_intro Go.Proofs.Try.func27 rfl (by kernel_rfl) mix (k27 0) (Nat.le_of_ble_eq_true l) h
/-- smalto/smaltoref07.Left -/
noncomputable def c28 (nb : Nat) : SC :=
 .seq (
 .ops [sop nb 5 (.box 24 (qt 0)) 0,
 sop nb 10 (.assign (qi 0)) 3]) (
 .seq (
 .ops [qld nb 16 24 5,
 qmv nb 17 1 25,
 qmv nb 18 2 26,
 qmv nb 19 3 3,
 qcl nb 20 27 #[qt 16, qt 17, qt 18, qt 19] #[24, 25, 26, 3] 26,
 qsg nb 11 20 26,
 sop nb 12 (.assign (qi 0)) 3]) (
 .seq (
 .seq (
 .ops [sop nb 13 (.assign (qi 0)) 3]) (
 .block 0 (
  .loop (
   .seq (
   .seq (
   .ops [qmv nb 21 13 3,
 sop nb 22 (.fieldAddr 24 (qt 5) 0) 0,
 qld nb 23 3 22,
 qbo nb 24 .lss 3 21 (qt 23) 3 4]) (
   .cond (qt 24) (
    .skip) (
    .exit 0))) (
   .seq (
   .block 1 (
    .seq (
    .ops [sop nb 14 (.assign (qi 0)) 3]) (
    .seq (
    .seq (
    .ops [sop nb 15 (.assign (qi 0)) 3]) (
    .block 2 (
     .loop (
      .seq (
      .seq (
      .ops [qmv nb 27 15 3,
 qmv nb 28 11 26,
 qln nb 29 #[qt 28] #[26] 3,
 qbo nb 30 .lss 3 27 (qt 29) 3 4]) (
      .cond (qt 30) (
       .skip) (
       .exit 2))) (
      .seq (
      .block 3 (
       .seq (
       .ops [qld nb 33 24 5,
 qmv nb 34 1 25,
 qmv nb 35 11 26,
 qmv nb 36 15 3,
 qix nb 37 26 35 36 0,
 qld nb 38 3 37,
 qix nb 39 25 34 38 0,
 qld nb 40 26 39,
 qmv nb 41 2 26,
 qmv nb 42 3 3,
 qmv nb 43 4 3,
 qmv nb 44 13 3,
 qcl nb 45 63 #[qt 33, qt 40, qt 41, qt 42, qt 43, qt 44] #[24, 26, 26, 3, 3, 3] 4]) (
       .cond (qt 45) (
        .ops [qmv nb 46 14 3,
 qbo nb 47 .add 3 46 (qi 1) 3 3,
 qsg nb 14 47 3]) (
        .skip)))) (
      .ops [qmv nb 31 15 3,
 qbo nb 32 .add 3 31 (qi 1) 3 3,
 qsg nb 15 32 3])))))) (
    .ops [qmv nb 48 12 3,
 qmv nb 49 14 3,
 sop nb 50 (.call { callee := .builtin .max, args := #[qt 48, qt 49], argTypes := #[3, 3] }) 3,
 qsg nb 12 50 3])))) (
   .ops [qmv nb 25 13 3,
 qbo nb 26 .add 3 25 (qi 1) 3 3,
 qsg nb 13 26 3])))))) (
 .seq (
 .ops [qmv nb 51 12 3,
 qsg nb 10 51 3]) (
 .ret))))
@[go_sem] theorem rs28 : Go.Proofs.Try.f28.results.toList = [.tmp 10] := by kernel_rfl
theorem en28 : Enters Q 28 := enters_of Go.Proofs.Try.func28 rfl (by kernel_rfl)
theorem k28 (nb : Nat) : sk nb Go.Proofs.Try.f28.ntmps (Go.Proofs.Try.f28.body.getD .skip) = some (c28 nb) := by kernel_rfl
theorem w28 {a : List Arg} {r : RV} (h : W Q (c28 0) [] ⟨ρ0 (a.map fun a => a.m.lv), h0⟩ (retG Q Go.Proofs.Try.f28.results.toList (retF r))) (l : Nat.ble a.length Go.Proofs.Try.f28.ntmps = true := by kernel_rfl) : Fn Q 28 a r := fn_intro Go.Proofs.Try.func28 rfl (by kernel_rfl) mix (k28 0) (Nat.le_of_ble_eq_true l) h
/-- smalto/smaltoref07.Lies -/
noncomputable def c63 (nb : Nat) : SC :=
 .seq (
 .ops [sop nb 6 (.box 24 (qt 0)) 0,
 sop nb 12 (.assign (.const (.bool false))) 4]) (
 .seq (
 .ops [qld nb 21 24 6,
 qmv nb 22 1 26,
 qmv nb 23 2 26,
 qcl nb 24 56 #[qt 21, qt 22, qt 23] #[24, 26, 26] 105,
 qmv nb 20 24 105,
 qex nb 25 20 0 26,
 qex nb 26 20 1 3,
 qex nb 27 20 2 4,
 qsg nb 13 25 26,
 qsg nb 14 26 3,
 qsg nb 15 27 4]) (
 .seq (
 .ops [qld nb 28 24 6,
 qmv nb 29 1 26,
 qmv nb 30 4 3,
 qix nb 31 26 29 30 0,
 qld nb 32 3 31,
 qmv nb 33 2 26,
 qmv nb 34 4 3,
 qix nb 35 26 33 34 0,
 qld nb 36 3 35,
 qcl nb 37 55 #[qt 28, qt 32, qt 36] #[24, 3, 3] 26,
 qsg nb 16 37 26]) (
 .seq (
 .ops [sop nb 17 (.assign (qi 9)) 3]) (
 .seq (
 .seq (
 .ops [sop nb 18 (.assign (qi 0)) 3]) (
 .block 0 (
  .loop (
   .seq (
   .seq (
   .ops [qmv nb 38 18 3,
 qmv nb 39 16 26,
 qln nb 40 #[qt 39] #[26] 3,
 qbo nb 41 .lss 3 38 (qt 40) 3 4]) (
   .cond (qt 41) (
    .skip) (
    .exit 0))) (
   .seq (
   .block 1 (
    .ops [qmv nb 44 17 3,
 qmv nb 45 16 26,
 qmv nb 46 18 3,
 qix nb 47 26 45 46 0,
 qld nb 48 3 47,
 qcl nb 49 84 #[qt 48] #[3] 3,
 sop nb 50 (.call { callee := .builtin .min, args := #[qt 44, qt 49], argTypes := #[3, 3] }) 3,
 qsg nb 17 50 3])) (
   .ops [qmv nb 42 18 3,
 qbo nb 43 .add 3 42 (qi 1) 3 3,
 qsg nb 18 43 3])))))) (
 .seq (
 .seq (
 .ops [sop nb 19 (.assign (qi 0)) 3]) (
 .block 2 (
  .loop (
   .seq (
   .seq (
   .ops [qmv nb 51 19 3,
 qbo nb 52 .lss 3 51 (qi 4) 3 4]) (
   .cond (qt 52) (
    .skip) (
    .exit 2))) (
   .seq (
   .block 3 (
    .seq (
    .ops [qld nb 55 24 6,
 qmv nb 56 1 26,
 qmv nb 57 4 3,
 qix nb 58 26 56 57 0,
 qld nb 59 3 58,
 qmv nb 60 2 26,
 qmv nb 61 4 3,
 qix nb 62 26 60 61 0,
 qld nb 63 3 62,
 qmv nb 64 19 3,
 qmv nb 65 5 3,
 qcl nb 66 83 #[qt 55, qt 59, qt 63, qt 64, qt 65] #[24, 3, 3, 3, 3] 4,
 qmv nb 67 66 4,
 gop nb 68 (.move (qt 14)) 3 67 true,
 gop nb 69 (.move (qt 17)) 3 67 true,
 gop nb 70 (.binOp .sub 3 (qt 68) (qt 69) 3) 3 67 true,
 gop nb 71 (.move (qt 19)) 3 67 true,
 gop nb 72 (.call { callee := .value (.func 84), args := #[qt 71], argTypes := #[3] }) 3 67 true,
 gop nb 73 (.binOp .add 3 (qt 70) (qt 72) 3) 3 67 true,
 gop nb 74 (.move (qt 3)) 3 67 true,
 gop nb 75 (.binOp .leq 3 (qt 73) (qt 74) 3) 4 67 true,
 sop nb 76 (.pick (qt 67) (qt 75) (.const (.bool false))) 4]) (
    .cond (qt 76) (
     .seq (
     .ops [sop nb 12 (.assign (.const (.bool true))) 4]) (
     .ret)) (
     .skip)))) (
   .ops [qmv nb 53 19 3,
 qbo nb 54 .add 3 53 (qi 1) 3 3,
 qsg nb 19 54 3])))))) (
 .seq (
 .ops [sop nb 12 (.assign (.const (.bool false))) 4]) (
 .ret)))))))
@[go_sem] theorem rs63 : Go.Proofs.Try.f63.results.toList = [.tmp 12] := by kernel_rfl
theorem en63 : Enters Q 63 := enters_of Go.Proofs.Try.func63 rfl (by kernel_rfl)
theorem k63 (nb : Nat) : sk nb Go.Proofs.Try.f63.ntmps (Go.Proofs.Try.f63.body.getD .skip) = some (c63 nb) := by kernel_rfl
theorem w63 {a : List Arg} {r : RV} (h : W Q (c63 0) [] ⟨ρ0 (a.map fun a => a.m.lv), h0⟩ (retG Q Go.Proofs.Try.f63.results.toList (retF r))) (l : Nat.ble a.length Go.Proofs.Try.f63.ntmps = true := by kernel_rfl) : Fn Q 63 a r := fn_intro Go.Proofs.Try.func63 rfl (by kernel_rfl) mix (k63 0) (Nat.le_of_ble_eq_true l) h
end S07

namespace S07
open Go Abs
/-- smalto/smaltolaw07.StencilMeans -/
noncomputable def c3 (nb : Nat) : SC :=
 .seq (
 .ops [sop nb 3 (.box 24 (qt 0)) 0,
 sop nb 5 (.box 28 (qt 2)) 0,
 sop nb 6 (.assign (.const (.bool false))) 4]) (
 .seq (
 .seq (
 .ops [qmv nb 21 1 25,
 qln nb 22 #[qt 21] #[25] 3,
 qbo nb 23 .gtr 3 22 (qi 10) 3 4,
 qmv nb 24 23 4,
 gop nb 25 (.load 24 (qt 3)) 24 24 false,
 gop nb 26 (.move (qt 1)) 25 24 false,
 gop nb 27 (.call { callee := .value (.func 13), args := #[qt 25, qt 26], argTypes := #[24, 25] }) 4 24 false,
 sop nb 28 (.pick (qt 24) (.const (.bool true)) (qt 27)) 4,
 qmv nb 29 28 4,
 gop nb 30 (.fieldAddr 28 (qt 5) 0) 0 29 false,
 gop nb 31 (.load 26 (qt 30)) 26 29 false,
 gop nb 32 (.call { callee := .builtin .len, args := #[qt 31], argTypes := #[26] }) 3 29 false,
 gop nb 33 (.binOp .gtr 3 (qt 32) (qi 12) 3) 4 29 false,
 sop nb 34 (.pick (qt 29) (.const (.bool true)) (qt 33)) 4]) (
 .cond (qt 34) (
  .seq (
  .ops [qcl nb 35 14 #[] #[] 4,
 qsg nb 6 35 4]) (
  .ret)) (
  .skip))) (
 .seq (
 .opsD [qld nb 36 24 3,
 qcl nb 37 15 #[qt 36] #[24] 24,
 qmv nb 38 1 25,
 qcl nb 39 16 #[qt 38] #[25] 25,
 sop nb 40 (.fieldAddr 28 (qt 5) 0) 0,
 qld nb 41 26 40,
 qcl nb 42 17 #[qt 41] #[26] 26,
 sop nb 7 (.alloc 24) 0,
 nop (.store 24 (qt 7) (qt 37)) 0,
 qsg nb 8 39 25,
 qsg nb 9 42 26] [(1, 5), (3, 5), (0, 7), (1, 7), (3, 7), (5, 7), (6, 7)]) (
 .seq (
 .ops [qld nb 44 24 7,
 qmv nb 45 8 25,
 qmv nb 46 9 26,
 sop nb 47 (.fieldAddr 28 (qt 5) 1) 0,
 qld nb 48 3 47,
 qcl nb 49 18 #[qt 44, qt 45, qt 46, qt 48] #[24, 25, 26, 3] 35,
 qmv nb 43 49 35,
 qex nb 50 43 0 26,
 qex nb 51 43 1 34,
 qsg nb 10 50 26,
 qsg nb 11 51 34]) (
 .seq (
 .ops [qld nb 53 24 7,
 qmv nb 54 8 25,
 qmv nb 55 9 26,
 sop nb 56 (.fieldAddr 28 (qt 5) 1) 0,
 qld nb 57 3 56,
 qcl nb 58 19 #[qt 53, qt 54, qt 55, qt 57] #[24, 25, 26, 3] 37,
 qmv nb 52 58 37,
 qex nb 59 52 0 3,
 qex nb 60 52 1 3,
 qex nb 61 52 2 34,
 qsg nb 12 59 3,
 qsg nb 13 60 3,
 qsg nb 14 61 34]) (
 .seq (
 .seq (
 .ops [qld nb 62 24 7,
 qld nb 63 24 3,
 qcl nb 64 20 #[qt 62, qt 63] #[24, 24] 4,
 sop nb 65 (.unOp .not 4 (qt 64)) 4,
 qmv nb 66 65 4,
 gop nb 67 (.move (qt 8)) 25 66 false,
 gop nb 68 (.move (qt 1)) 25 66 false,
 gop nb 69 (.call { callee := .value (.func 21), args := #[qt 67, qt 68], argTypes := #[25, 25] }) 4 66 false,
 gop nb 70 (.unOp .not 4 (qt 69)) 4 66 false,
 sop nb 71 (.pick (qt 66) (.const (.bool true)) (qt 70)) 4,
 qmv nb 72 71 4,
 gop nb 73 (.move (qt 9)) 26 72 false,
 gop nb 74 (.fieldAddr 28 (qt 5) 0) 0 72 false,
 gop nb 75 (.load 26 (qt 74)) 26 72 false,
 gop nb 76 (.call { callee := .value (.func 22), args := #[qt 73, qt 75], argTypes := #[26, 26] }) 4 72 false,
 gop nb 77 (.unOp .not 4 (qt 76)) 4 72 false,
 sop nb 78 (.pick (qt 72) (.const (.bool true)) (qt 77)) 4]) (
 .cond (qt 78) (
  .seq (
  .ops [sop nb 6 (.assign (.const (.bool false))) 4]) (
  .ret)) (
  .skip))) (
 .seq (
 .ops [qld nb 79 24 3,
 qcl nb 80 23 #[qt 79] #[24] 34,
 sop nb 81 (.buildSlice 26 0 #[]) 26,
 qsg nb 15 80 34,
 qsg nb 16 81 26]) (
 .seq (
 .seq (
 .ops [qmv nb 82 15 34,
 qbo nb 83 .eql 34 82 (qi 0) 34 4]) (
 .cond (qt 83) (
  .ops [qld nb 84 24 3,
 qmv nb 85 1 25,
 qcl nb 86 24 #[qt 84, qt 85] #[24, 25] 34,
 qsg nb 15 86 34]) (
  .skip))) (
 .seq (
 .seq (
 .ops [qmv nb 87 15 34,
 qbo nb 88 .eql 34 87 (qi 0) 34 4,
 qmv nb 89 88 4,
 gop nb 90 (.load 24 (qt 3)) 24 89 true,
 gop nb 91 (.fieldAddr 28 (qt 5) 0) 0 89 true,
 gop nb 92 (.load 26 (qt 91)) 26 89 true,
 gop nb 93 (.call { callee := .value (.func 25), args := #[qt 90, qt 92], argTypes := #[24, 26] }) 4 89 true,
 gop nb 94 (.unOp .not 4 (qt 93)) 4 89 true,
 sop nb 95 (.pick (qt 89) (qt 94) (.const (.bool false))) 4]) (
 .cond (qt 95) (
  .ops [sop nb 15 (.assign (qi 4)) 34]) (
  .skip))) (
 .seq (
 .seq (
 .ops [qmv nb 96 15 34,
 qbo nb 97 .eql 34 96 (qi 0) 34 4,
 qmv nb 98 97 4,
 gop nb 99 (.fieldAddr 28 (qt 5) 1) 0 98 true,
 gop nb 100 (.load 3 (qt 99)) 3 98 true,
 gop nb 101 (.call { callee := .value (.func 26), args := #[qt 100, qi 0, qi 12], argTypes := #[3, 3, 3] }) 4 98 true,
 gop nb 102 (.unOp .not 4 (qt 101)) 4 98 true,
 sop nb 103 (.pick (qt 98) (qt 102) (.const (.bool false))) 4]) (
 .cond (qt 103) (
  .ops [sop nb 15 (.assign (qi 3)) 34]) (
  .skip))) (
 .seq (
 .seq (
 .ops [qmv nb 104 15 34,
 qbo nb 105 .eql 34 104 (qi 0) 34 4]) (
 .cond (qt 105) (
  .seq (
  .ops [qld nb 106 24 3,
 qmv nb 107 1 25,
 sop nb 108 (.fieldAddr 28 (qt 5) 0) 0,
 qld nb 109 26 108,
 sop nb 110 (.fieldAddr 28 (qt 5) 1) 0,
 qld nb 111 3 110,
 qcl nb 112 27 #[qt 106, qt 107, qt 109, qt 111] #[24, 25, 26, 3] 26,
 qsg nb 16 112 26]) (
  .seq (
  .ops [qmv nb 113 16 26,
 qln nb 114 #[qt 113] #[26] 3,
 qbo nb 115 .eql 3 114 (qi 0) 3 4]) (
  .cond (qt 115) (
   .ops [sop nb 15 (.assign (qi 7)) 34]) (
   .skip)))) (
  .skip))) (
 .seq (
 .seq (
 .ops [qmv nb 116 15 34,
 qbo nb 117 .neq 34 116 (qi 0) 34 4]) (
 .cond (qt 117) (
  .seq (
  .ops [qmv nb 118 11 34,
 qmv nb 119 15 34,
 qbo nb 120 .eql 34 118 (qt 119) 34 4,
 qmv nb 121 120 4,
 gop nb 122 (.move (qt 14)) 34 121 true,
 gop nb 123 (.move (qt 15)) 34 121 true,
 gop nb 124 (.binOp .eql 34 (qt 122) (qt 123) 34) 4 121 true,
 sop nb 125 (.pick (qt 121) (qt 124) (.const (.bool false))) 4,
 qmv nb 126 125 4,
 gop nb 127 (.move (qt 10)) 26 126 true,
 gop nb 128 (.call { callee := .builtin .len, args := #[qt 127], argTypes := #[26] }) 3 126 true,
 gop nb 129 (.binOp .eql 3 (qt 128) (qi 0) 3) 4 126 true,
 sop nb 130 (.pick (qt 126) (qt 129) (.const (.bool false))) 4,
 qmv nb 131 130 4,
 gop nb 132 (.move (qt 12)) 3 131 true,
 gop nb 133 (.binOp .eql 3 (qt 132) (qi 0) 3) 4 131 true,
 sop nb 134 (.pick (qt 131) (qt 133) (.const (.bool false))) 4,
 qmv nb 135 134 4,
 gop nb 136 (.move (qt 13)) 3 135 true,
 gop nb 137 (.binOp .eql 3 (qt 136) (qi 0) 3) 4 135 true,
 sop nb 138 (.pick (qt 135) (qt 137) (.const (.bool false))) 4,
 qmv nb 139 138 4,
 gop nb 140 (.call { callee := .value (.func 14), args := #[], argTypes := #[] }) 4 139 true,
 sop nb 141 (.pick (qt 139) (qt 140) (.const (.bool false))) 4,
 qsg nb 6 141 4]) (
  .ret)) (
  .skip))) (
 .seq (
 .seq (
 .ops [qmv nb 142 11 34,
 qbo nb 143 .neq 34 142 (qi 0) 34 4,
 qmv nb 144 143 4,
 gop nb 145 (.move (qt 10)) 26 144 false,
 gop nb 146 (.move (qt 16)) 26 144 false,
 gop nb 147 (.call { callee := .value (.func 22), args := #[qt 145, qt 146], argTypes := #[26, 26] }) 4 144 false,
 gop nb 148 (.unOp .not 4 (qt 147)) 4 144 false,
 sop nb 149 (.pick (qt 144) (.const (.bool true)) (qt 148)) 4]) (
 .cond (qt 149) (
  .seq (
  .ops [sop nb 6 (.assign (.const (.bool false))) 4]) (
  .ret)) (
  .skip))) (
 .seq (
 .ops [qmv nb 150 16 26,
 qln nb 151 #[qt 150] #[26] 3,
 sop nb 17 (.assign (qi (-1))) 3,
 qsg nb 18 151 3]) (
 .seq (
 .seq (
 .ops [sop nb 19 (.assign (qi 0)) 3]) (
 .block 0 (
  .loop (
   .seq (
   .seq (
   .ops [qmv nb 152 19 3,
 sop nb 153 (.fieldAddr 28 (qt 5) 0) 0,
 qld nb 154 26 153,
 qln nb 155 #[qt 154] #[26] 3,
 qbo nb 156 .lss 3 152 (qt 155) 3 4]) (
   .cond (qt 156) (
    .skip) (
    .exit 0))) (
   .seq (
   .block 1 (
    .seq (
    .ops [qld nb 159 24 3,
 qmv nb 160 1 25,
 sop nb 161 (.fieldAddr 28 (qt 5) 0) 0,
 qld nb 162 26 161,
 sop nb 163 (.fieldAddr 28 (qt 5) 1) 0,
 qld nb 164 3 163,
 qmv nb 165 19 3,
 qcl nb 166 28 #[qt 159, qt 160, qt 162, qt 164, qt 165] #[24, 25, 26, 3, 3] 3,
 qsg nb 20 166 3]) (
    .seq (
    .ops [qmv nb 167 20 3,
 qmv nb 168 18 3,
 qbo nb 169 .lss 3 167 (qt 168) 3 4]) (
    .cond (qt 169) (
     .ops [qmv nb 170 19 3,
 qmv nb 171 20 3,
 qsg nb 17 170 3,
 qsg nb 18 171 3]) (
     .skip))))) (
   .ops [qmv nb 157 19 3,
 qbo nb 158 .add 3 157 (qi 1) 3 3,
 qsg nb 19 158 3])))))) (
 .seq (
 .seq (
 .ops [qmv nb 172 17 3,
 qbo nb 173 .lss 3 172 (qi 0) 3 4]) (
 .cond (qt 173) (
  .seq (
  .ops [qmv nb 174 14 34,
 qbo nb 175 .eql 34 174 (qi 6) 34 4,
 qmv nb 176 175 4,
 gop nb 177 (.move (qt 12)) 3 176 true,
 gop nb 178 (.binOp .eql 3 (qt 177) (qi 0) 3) 4 176 true,
 sop nb 179 (.pick (qt 176) (qt 178) (.const (.bool false))) 4,
 qmv nb 180 179 4,
 gop nb 181 (.move (qt 13)) 3 180 true,
 gop nb 182 (.binOp .eql 3 (qt 181) (qi 0) 3) 4 180 true,
 sop nb 183 (.pick (qt 180) (qt 182) (.const (.bool false))) 4,
 qmv nb 184 183 4,
 gop nb 185 (.call { callee := .value (.func 14), args := #[], argTypes := #[] }) 4 184 true,
 sop nb 186 (.pick (qt 184) (qt 185) (.const (.bool false))) 4,
 qsg nb 6 186 4]) (
  .ret)) (
  .skip))) (
 .seq (
 .ops [qmv nb 187 14 34,
 qbo nb 188 .eql 34 187 (qi 0) 34 4,
 qmv nb 189 188 4,
 gop nb 190 (.move (qt 12)) 3 189 true,
 gop nb 191 (.move (qt 17)) 3 189 true,
 gop nb 192 (.binOp .eql 3 (qt 190) (qt 191) 3) 4 189 true,
 sop nb 193 (.pick (qt 189) (qt 192) (.const (.bool false))) 4,
 qmv nb 194 193 4,
 gop nb 195 (.move (qt 13)) 3 194 true,
 gop nb 196 (.move (qt 18)) 3 194 true,
 gop nb 197 (.binOp .eql 3 (qt 195) (qt 196) 3) 4 194 true,
 sop nb 198 (.pick (qt 194) (qt 197) (.const (.bool false))) 4,
 qmv nb 199 198 4,
 gop nb 200 (.call { callee := .value (.func 14), args := #[], argTypes := #[] }) 4 199 true,
 sop nb 201 (.pick (qt 199) (qt 200) (.const (.bool false))) 4,
 qsg nb 6 201 4]) (
 .ret)))))))))))))))))
@[go_sem] theorem rs3 : Go.Proofs.Try.f3.results.toList = [.tmp 6] := by kernel_rfl
theorem en3 : Enters Q 3 := enters_of Go.Proofs.Try.func3 rfl (by kernel_rfl)
theorem k3 (nb : Nat) : sk nb Go.Proofs.Try.f3.ntmps (Go.Proofs.Try.f3.body.getD .skip) = some (c3 nb) := by kernel_rfl
theorem w3 {a : List Arg} {r : RV} (h : W Q (c3 0) [] ⟨ρ0 (a.map fun a => a.m.lv), h0⟩ (retG Q Go.Proofs.Try.f3.results.toList (retF r))) (l : Nat.ble a.length Go.Proofs.Try.f3.ntmps = true := by kernel_rfl) : Fn Q 3 a r := fn_intro Go.Proofs.Try.func3 rfl (by kernel_rfl) mix (k3 0) (Nat.le_of_ble_eq_true l) h
end S07

