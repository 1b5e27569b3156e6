/- A part of the proof: C04r0, C04x0. -/
import Derived.Test.YtncbkgbdpaibmaaF04
set_option linter.unusedVariables false
set_option linter.unusedSimpArgs false
set_option maxRecDepth 20000
namespace S04
open Go Abs
noncomputable def c16 (nb : Nat) : SC :=
 .seq (
 .ops [sop nb 2 (.box 25 (qt 0)) 0,
 sop nb 4 (.assign (.const (.bool false))) 4]) (
 .seq (
 .seq (
 .ops [sop nb 5 (.assign (qi 0)) 3]) (
 .block 0 (
  .loop (
   .seq (
   .seq (
   .ops [qmv nb 6 5 3,
 qmv nb 7 1 56,
 qln nb 8 #[qt 7] #[56] 3,
 qbo nb 9 .lss 3 6 (qt 8) 3 4,
 qmv nb 10 9 4,
 gop nb 11 (.move (qt 5)) 3 10 true,
 gop nb 12 (.binOp .lss 3 (qt 11) (qi 21) 3) 4 10 true,
 sop nb 13 (.pick (qt 10) (qt 12) (.const (.bool false))) 4]) (
   .cond (qt 13) (
    .skip) (
    .exit 0))) (
   .seq (
   .block 1 (
    .seq (
    .ops [qmv nb 16 1 56,
 qmv nb 17 5 3,
 qix nb 18 56 16 17 0,
 qld nb 19 22 18,
 qln nb 20 #[qt 19] #[22] 3,
 qbo nb 21 .gtr 3 20 (qi 20) 3 4]) (
    .cond (qt 21) (
     .seq (
     .ops [sop nb 4 (.assign (.const (.bool true))) 4]) (
     .ret)) (
     .skip)))) (
   .ops [qmv nb 14 5 3,
 qbo nb 15 .add 3 14 (qi 1) 3 3,
 qsg nb 5 15 3])))))) (
 .seq (
 .ops [sop nb 22 (.fieldAddr 25 (qt 2) 0) 0,
 qld nb 23 22 22,
 qln nb 24 #[qt 23] #[22] 3,
 qbo nb 25 .gtr 3 24 (qi 20) 3 4,
 qmv nb 26 25 4,
 gop nb 27 (.fieldAddr 25 (qt 2) 1) 0 26 false,
 gop nb 28 (.load 23 (qt 27)) 23 26 false,
 gop nb 29 (.call { callee := .builtin .len, args := #[qt 28], argTypes := #[23] }) 3 26 false,
 gop nb 30 (.binOp .gtr 3 (qt 29) (qi 20) 3) 4 26 false,
 sop nb 31 (.pick (qt 26) (.const (.bool true)) (qt 30)) 4,
 qmv nb 32 31 4,
 gop nb 33 (.move (qt 1)) 56 32 false,
 gop nb 34 (.call { callee := .builtin .len, args := #[qt 33], argTypes := #[56] }) 3 32 false,
 gop nb 35 (.binOp .gtr 3 (qt 34) (qi 20) 3) 4 32 false,
 sop nb 36 (.pick (qt 32) (.const (.bool true)) (qt 35)) 4,
 qsg nb 4 36 4]) (
 .ret)))
noncomputable def c18 (nb : Nat) : SC :=
 .seq (
 .ops [sop nb 1 (.box 25 (qt 0)) 0,
 sop nb 2 (.alloc 25) 0]) (
 .seq (
 .opsD [sop nb 3 (.buildSlice 22 0 #[]) 22,
 sop nb 4 (.fieldAddr 25 (qt 1) 0) 0,
 qld nb 5 22 4,
 sop nb 6 (.call { callee := .builtin .append, args := #[qt 3, qt 5], argTypes := #[22, 22] }) 22,
 sop nb 7 (.buildSlice 23 0 #[]) 23,
 sop nb 8 (.fieldAddr 25 (qt 1) 1) 0,
 qld nb 9 23 8,
 sop nb 10 (.call { callee := .builtin .append, args := #[qt 7, qt 9], argTypes := #[23, 23] }) 23,
 sop nb 11 (.fieldAddr 25 (qt 1) 0) 0,
 nop (.store 22 (qt 11) (qt 6)) 0,
 sop nb 12 (.fieldAddr 25 (qt 1) 1) 0,
 nop (.store 23 (qt 12) (qt 10)) 0] [(0, 2), (0, 4), (2, 4), (3, 4), (0, 6), (3, 6), (4, 6)]) (
 .seq (
 .ops [qld nb 13 25 1,
 nop (.store 25 (qt 2) (qt 13)) 0]) (
 .ret)))
noncomputable def c22 (nb : Nat) : SC :=
 .seq (
 .ops [sop nb 1 (.box 25 (qt 0)) 0,
 sop nb 2 (.assign (qi 0)) 29]) (
 .seq (
 .ops [sop nb 9 (.fieldAddr 25 (qt 1) 0) 0,
 qld nb 10 22 9,
 qln nb 11 #[qt 10] #[22] 3,
 qsg nb 3 11 3]) (
 .seq (
 .seq (
 .ops [qmv nb 12 3 3,
 qcl nb 13 36 #[qt 12, qi 1, qi 8] #[3, 3, 3] 4,
 sop nb 14 (.unOp .not 4 (qt 13)) 4,
 qmv nb 15 14 4,
 gop nb 16 (.fieldAddr 25 (qt 1) 2) 0 15 false,
 gop nb 17 (.load 3 (qt 16)) 3 15 false,
 gop nb 18 (.call { callee := .value (.func 36), args := #[qt 17, qi 0, qi 20], argTypes := #[3, 3, 3] }) 4 15 false,
 gop nb 19 (.unOp .not 4 (qt 18)) 4 15 false,
 sop nb 20 (.pick (qt 15) (.const (.bool true)) (qt 19)) 4,
 qmv nb 21 20 4,
 gop nb 22 (.fieldAddr 25 (qt 1) 3) 0 21 false,
 gop nb 23 (.load 3 (qt 22)) 3 21 false,
 gop nb 24 (.call { callee := .value (.func 36), args := #[qt 23, qi 0, qi 10], argTypes := #[3, 3, 3] }) 4 21 false,
 gop nb 25 (.unOp .not 4 (qt 24)) 4 21 false,
 sop nb 26 (.pick (qt 21) (.const (.bool true)) (qt 25)) 4,
 qmv nb 27 26 4,
 gop nb 28 (.fieldAddr 25 (qt 1) 4) 0 27 false,
 gop nb 29 (.load 3 (qt 28)) 3 27 false,
 gop nb 30 (.call { callee := .value (.func 36), args := #[qt 29, qi 0, qi 30], argTypes := #[3, 3, 3] }) 4 27 false,
 gop nb 31 (.unOp .not 4 (qt 30)) 4 27 false,
 sop nb 32 (.pick (qt 27) (.const (.bool true)) (qt 31)) 4]) (
 .cond (qt 32) (
  .seq (
  .ops [sop nb 2 (.assign (qi 4)) 29]) (
  .ret)) (
  .skip))) (
 .seq (
 .seq (
 .ops [sop nb 4 (.assign (qi 0)) 3]) (
 .block 0 (
  .loop (
   .seq (
   .seq (
   .ops [qmv nb 33 4 3,
 qmv nb 34 3 3,
 qbo nb 35 .lss 3 33 (qt 34) 3 4]) (
   .cond (qt 35) (
    .skip) (
    .exit 0))) (
   .seq (
   .block 1 (
    .seq (
    .ops [sop nb 38 (.fieldAddr 25 (qt 1) 0) 0,
 qld nb 39 22 38,
 qmv nb 40 4 3,
 qix nb 41 22 39 40 0,
 qld nb 42 3 41,
 qcl nb 43 36 #[qt 42, qi 1, qi 30] #[3, 3, 3] 4,
 sop nb 44 (.unOp .not 4 (qt 43)) 4]) (
    .cond (qt 44) (
     .seq (
     .ops [sop nb 2 (.assign (qi 4)) 29]) (
     .ret)) (
     .skip)))) (
   .ops [qmv nb 36 4 3,
 qbo nb 37 .add 3 36 (qi 1) 3 3,
 qsg nb 4 37 3])))))) (
 .seq (
 .seq (
 .ops [sop nb 45 (.fieldAddr 25 (qt 1) 1) 0,
 qld nb 46 23 45,
 qln nb 47 #[qt 46] #[23] 3,
 qbo nb 48 .gtr 3 47 (qi 10) 3 4]) (
 .cond (qt 48) (
  .seq (
  .ops [sop nb 2 (.assign (qi 5)) 29]) (
  .ret)) (
  .skip))) (
 .seq (
 .seq (
 .ops [sop nb 5 (.assign (qi 0)) 3]) (
 .block 2 (
  .loop (
   .seq (
   .seq (
   .ops [qmv nb 49 5 3,
 sop nb 50 (.fieldAddr 25 (qt 1) 1) 0,
 qld nb 51 23 50,
 qln nb 52 #[qt 51] #[23] 3,
 qbo nb 53 .lss 3 49 (qt 52) 3 4]) (
   .cond (qt 53) (
    .skip) (
    .exit 2))) (
   .seq (
   .block 3 (
    .seq (
    .ops [sop nb 56 (.fieldAddr 25 (qt 1) 1) 0,
 qld nb 57 23 56,
 qmv nb 58 5 3,
 qix nb 59 23 57 58 0,
 qld nb 60 108 59,
 sop nb 6 (.alloc 108) 0,
 nop (.store 108 (qt 6) (qt 60)) 0]) (
    .seq (
    .ops [sop nb 61 (.fieldAddr 108 (qt 6) 0) 0,
 qld nb 62 3 61,
 qmv nb 63 3 3,
 qbo nb 64 .sub 3 63 (qi 1) 3 3,
 qcl nb 65 36 #[qt 62, qi 0, qt 64] #[3, 3, 3] 4,
 sop nb 66 (.unOp .not 4 (qt 65)) 4,
 qmv nb 67 66 4,
 gop nb 68 (.fieldAddr 108 (qt 6) 1) 0 67 false,
 gop nb 69 (.load 3 (qt 68)) 3 67 false,
 gop nb 70 (.move (qt 3)) 3 67 false,
 gop nb 71 (.binOp .sub 3 (qt 70) (qi 1) 3) 3 67 false,
 gop nb 72 (.call { callee := .value (.func 36), args := #[qt 69, qi 0, qt 71], argTypes := #[3, 3, 3] }) 4 67 false,
 gop nb 73 (.unOp .not 4 (qt 72)) 4 67 false,
 sop nb 74 (.pick (qt 67) (.const (.bool true)) (qt 73)) 4,
 qmv nb 75 74 4,
 gop nb 76 (.fieldAddr 108 (qt 6) 2) 0 75 false,
 gop nb 77 (.load 3 (qt 76)) 3 75 false,
 gop nb 78 (.call { callee := .value (.func 36), args := #[qt 77, (qi (-5)), qi 5], argTypes := #[3, 3, 3] }) 4 75 false,
 gop nb 79 (.unOp .not 4 (qt 78)) 4 75 false,
 sop nb 80 (.pick (qt 75) (.const (.bool true)) (qt 79)) 4]) (
    .cond (qt 80) (
     .seq (
     .ops [sop nb 2 (.assign (qi 2)) 29]) (
     .ret)) (
     .skip))))) (
   .ops [qmv nb 54 5 3,
 qbo nb 55 .add 3 54 (qi 1) 3 3,
 qsg nb 5 55 3])))))) (
 .seq (
 .seq (
 .ops [sop nb 7 (.assign (qi 0)) 3]) (
 .block 4 (
  .loop (
   .seq (
   .seq (
   .ops [qmv nb 81 7 3,
 sop nb 82 (.fieldAddr 25 (qt 1) 1) 0,
 qld nb 83 23 82,
 qln nb 84 #[qt 83] #[23] 3,
 qbo nb 85 .lss 3 81 (qt 84) 3 4]) (
   .cond (qt 85) (
    .skip) (
    .exit 4))) (
   .seq (
   .block 5 (
    .seq (
    .ops [sop nb 8 (.assign (qi 0)) 3]) (
    .block 6 (
     .loop (
      .seq (
      .seq (
      .ops [qmv nb 88 8 3,
 qmv nb 89 7 3,
 qbo nb 90 .lss 3 88 (qt 89) 3 4]) (
      .cond (qt 90) (
       .skip) (
       .exit 6))) (
      .seq (
      .block 7 (
       .seq (
       .ops [sop nb 93 (.fieldAddr 25 (qt 1) 1) 0,
 qld nb 94 23 93,
 qmv nb 95 7 3,
 qix nb 96 23 94 95 0,
 sop nb 97 (.fieldAddr 108 (qt 96) 0) 0,
 qld nb 98 3 97,
 sop nb 99 (.fieldAddr 25 (qt 1) 1) 0,
 qld nb 100 23 99,
 qmv nb 101 8 3,
 qix nb 102 23 100 101 0,
 sop nb 103 (.fieldAddr 108 (qt 102) 0) 0,
 qld nb 104 3 103,
 qbo nb 105 .eql 3 98 (qt 104) 3 4,
 qmv nb 106 105 4,
 gop nb 107 (.fieldAddr 25 (qt 1) 1) 0 106 true,
 gop nb 108 (.load 23 (qt 107)) 23 106 true,
 gop nb 109 (.move (qt 7)) 3 106 true,
 gop nb 110 (.indexAddr 23 (qt 108) (qt 109)) 0 106 true,
 gop nb 111 (.fieldAddr 108 (qt 110) 1) 0 106 true,
 gop nb 112 (.load 3 (qt 111)) 3 106 true,
 gop nb 113 (.fieldAddr 25 (qt 1) 1) 0 106 true,
 gop nb 114 (.load 23 (qt 113)) 23 106 true,
 gop nb 115 (.move (qt 8)) 3 106 true,
 gop nb 116 (.indexAddr 23 (qt 114) (qt 115)) 0 106 true,
 gop nb 117 (.fieldAddr 108 (qt 116) 1) 0 106 true,
 gop nb 118 (.load 3 (qt 117)) 3 106 true,
 gop nb 119 (.binOp .eql 3 (qt 112) (qt 118) 3) 4 106 true,
 sop nb 120 (.pick (qt 106) (qt 119) (.const (.bool false))) 4]) (
       .cond (qt 120) (
        .seq (
        .ops [sop nb 2 (.assign (qi 6)) 29]) (
        .ret)) (
        .skip)))) (
      .ops [qmv nb 91 8 3,
 qbo nb 92 .add 3 91 (qi 1) 3 3,
 qsg nb 8 92 3]))))))) (
   .ops [qmv nb 86 7 3,
 qbo nb 87 .add 3 86 (qi 1) 3 3,
 qsg nb 7 87 3])))))) (
 .seq (
 .ops [sop nb 2 (.assign (qi 0)) 29]) (
 .ret))))))))
noncomputable def c23 (nb : Nat) : SC :=
 .seq (
 .ops [sop nb 2 (.box 25 (qt 0)) 0,
 sop nb 3 (.box 25 (qt 1)) 0,
 sop nb 4 (.assign (.const (.bool false))) 4]) (
 .seq (
 .seq (
 .ops [sop nb 6 (.fieldAddr 25 (qt 2) 0) 0,
 qld nb 7 22 6,
 sop nb 8 (.fieldAddr 25 (qt 3) 0) 0,
 qld nb 9 22 8,
 qcl nb 10 24 #[qt 7, qt 9] #[22, 22] 4,
 sop nb 11 (.unOp .not 4 (qt 10)) 4,
 qmv nb 12 11 4,
 gop nb 13 (.fieldAddr 25 (qt 2) 1) 0 12 false,
 gop nb 14 (.load 23 (qt 13)) 23 12 false,
 gop nb 15 (.call { callee := .builtin .len, args := #[qt 14], argTypes := #[23] }) 3 12 false,
 gop nb 16 (.fieldAddr 25 (qt 3) 1) 0 12 false,
 gop nb 17 (.load 23 (qt 16)) 23 12 false,
 gop nb 18 (.call { callee := .builtin .len, args := #[qt 17], argTypes := #[23] }) 3 12 false,
 gop nb 19 (.binOp .neq 3 (qt 15) (qt 18) 3) 4 12 false,
 sop nb 20 (.pick (qt 12) (.const (.bool true)) (qt 19)) 4,
 qmv nb 21 20 4,
 gop nb 22 (.fieldAddr 25 (qt 2) 2) 0 21 false,
 gop nb 23 (.load 3 (qt 22)) 3 21 false,
 gop nb 24 (.fieldAddr 25 (qt 3) 2) 0 21 false,
 gop nb 25 (.load 3 (qt 24)) 3 21 false,
 gop nb 26 (.binOp .neq 3 (qt 23) (qt 25) 3) 4 21 false,
 sop nb 27 (.pick (qt 21) (.const (.bool true)) (qt 26)) 4,
 qmv nb 28 27 4,
 gop nb 29 (.fieldAddr 25 (qt 2) 3) 0 28 false,
 gop nb 30 (.load 3 (qt 29)) 3 28 false,
 gop nb 31 (.fieldAddr 25 (qt 3) 3) 0 28 false,
 gop nb 32 (.load 3 (qt 31)) 3 28 false,
 gop nb 33 (.binOp .neq 3 (qt 30) (qt 32) 3) 4 28 false,
 sop nb 34 (.pick (qt 28) (.const (.bool true)) (qt 33)) 4,
 qmv nb 35 34 4,
 gop nb 36 (.fieldAddr 25 (qt 2) 4) 0 35 false,
 gop nb 37 (.load 3 (qt 36)) 3 35 false,
 gop nb 38 (.fieldAddr 25 (qt 3) 4) 0 35 false,
 gop nb 39 (.load 3 (qt 38)) 3 35 false,
 gop nb 40 (.binOp .neq 3 (qt 37) (qt 39) 3) 4 35 false,
 sop nb 41 (.pick (qt 35) (.const (.bool true)) (qt 40)) 4]) (
 .cond (qt 41) (
  .seq (
  .ops [sop nb 4 (.assign (.const (.bool false))) 4]) (
  .ret)) (
  .skip))) (
 .seq (
 .seq (
 .ops [sop nb 5 (.assign (qi 0)) 3]) (
 .block 0 (
  .loop (
   .seq (
   .seq (
   .ops [qmv nb 42 5 3,
 sop nb 43 (.fieldAddr 25 (qt 2) 1) 0,
 qld nb 44 23 43,
 qln nb 45 #[qt 44] #[23] 3,
 qbo nb 46 .lss 3 42 (qt 45) 3 4]) (
   .cond (qt 46) (
    .skip) (
    .exit 0))) (
   .seq (
   .block 1 (
    .seq (
    .ops [sop nb 49 (.fieldAddr 25 (qt 2) 1) 0,
 qld nb 50 23 49,
 qmv nb 51 5 3,
 qix nb 52 23 50 51 0,
 qld nb 53 108 52,
 sop nb 54 (.fieldAddr 25 (qt 3) 1) 0,
 qld nb 55 23 54,
 qmv nb 56 5 3,
 qix nb 57 23 55 56 0,
 qld nb 58 108 57,
 qbo nb 59 .neq 108 53 (qt 58) 108 4]) (
    .cond (qt 59) (
     .seq (
     .ops [sop nb 4 (.assign (.const (.bool false))) 4]) (
     .ret)) (
     .skip)))) (
   .ops [qmv nb 47 5 3,
 qbo nb 48 .add 3 47 (qi 1) 3 3,
 qsg nb 5 48 3])))))) (
 .seq (
 .ops [sop nb 4 (.assign (.const (.bool true))) 4]) (
 .ret))))
noncomputable def c24 (nb : Nat) : SC :=
 .seq (
 .ops [sop nb 4 (.assign (.const (.bool false))) 4]) (
 .seq (
 .seq (
 .ops [qmv nb 6 0 22,
 qln nb 7 #[qt 6] #[22] 3,
 qmv nb 8 1 22,
 qln nb 9 #[qt 8] #[22] 3,
 qbo nb 10 .neq 3 7 (qt 9) 3 4]) (
 .cond (qt 10) (
  .seq (
  .ops [sop nb 4 (.assign (.const (.bool false))) 4]) (
  .ret)) (
  .skip))) (
 .seq (
 .seq (
 .ops [sop nb 5 (.assign (qi 0)) 3]) (
 .block 0 (
  .loop (
   .seq (
   .seq (
   .ops [qmv nb 11 5 3,
 qmv nb 12 0 22,
 qln nb 13 #[qt 12] #[22] 3,
 qbo nb 14 .lss 3 11 (qt 13) 3 4]) (
   .cond (qt 14) (
    .skip) (
    .exit 0))) (
   .seq (
   .block 1 (
    .seq (
    .ops [qmv nb 17 0 22,
 qmv nb 18 5 3,
 qix nb 19 22 17 18 0,
 qld nb 20 3 19,
 qmv nb 21 1 22,
 qmv nb 22 5 3,
 qix nb 23 22 21 22 0,
 qld nb 24 3 23,
 qbo nb 25 .neq 3 20 (qt 24) 3 4]) (
    .cond (qt 25) (
     .seq (
     .ops [sop nb 4 (.assign (.const (.bool false))) 4]) (
     .ret)) (
     .skip)))) (
   .ops [qmv nb 15 5 3,
 qbo nb 16 .add 3 15 (qi 1) 3 3,
 qsg nb 5 16 3])))))) (
 .seq (
 .ops [sop nb 4 (.assign (.const (.bool true))) 4]) (
 .ret))))
@[go_sem] theorem rs24 : Go.Proofs.Try.f24.results.toList = [.tmp 4] := by kernel_rfl
theorem k24 (nb : Nat) : sk nb Go.Proofs.Try.f24.ntmps (Go.Proofs.Try.f24.body.getD .skip) = some (c24 nb) := by kernel_rfl
theorem w24 {a : List Arg} {r : RV} (h : W Q (c24 0) [] ⟨ρ0 (a.map fun a => a.m.lv), h0⟩ (retG Q Go.Proofs.Try.f24.results.toList (retF r))) (l : Nat.ble a.length Go.Proofs.Try.f24.ntmps = true := by kernel_rfl) : Fn Q 24 a r := fn_intro Go.Proofs.Try.func24 rfl (by kernel_rfl) mix (k24 0) (Nat.le_of_ble_eq_true l) h
noncomputable def c25 (nb : Nat) : SC :=
 .seq (
 .ops [sop nb 3 (.box 25 (qt 0)) 0,
 sop nb 6 (.assign (.const (.bool false))) 4]) (
 .seq (
 .seq (
 .ops [sop nb 7 (.assign (qi 0)) 3]) (
 .block 0 (
  .loop (
   .seq (
   .seq (
   .ops [qmv nb 8 7 3,
 qmv nb 9 1 22,
 qln nb 10 #[qt 9] #[22] 3,
 qbo nb 11 .lss 3 8 (qt 10) 3 4]) (
   .cond (qt 11) (
    .skip) (
    .exit 0))) (
   .seq (
   .block 1 (
    .seq (
    .ops [qmv nb 14 1 22,
 qmv nb 15 7 3,
 qix nb 16 22 14 15 0,
 qld nb 17 3 16,
 sop nb 18 (.fieldAddr 25 (qt 3) 0) 0,
 qld nb 19 22 18,
 qln nb 20 #[qt 19] #[22] 3,
 qbo nb 21 .sub 3 20 (qi 1) 3 3,
 qcl nb 22 36 #[qt 17, qi 0, qt 21] #[3, 3, 3] 4,
 sop nb 23 (.unOp .not 4 (qt 22)) 4,
 qmv nb 24 23 4,
 gop nb 25 (.move (qt 2)) 4 24 true,
 gop nb 26 (.move (qt 25)) 4 24 true,
 gop nb 27 (.move (qt 1)) 22 26 true,
 gop nb 28 (.move (qt 7)) 3 26 true,
 gop nb 29 (.indexAddr 22 (qt 27) (qt 28)) 0 26 true,
 gop nb 30 (.load 3 (qt 29)) 3 26 true,
 gop nb 31 (.binOp .eql 3 (qt 30) (qi (-1)) 3) 4 26 true,
 gop nb 32 (.pick (qt 26) (qt 31) (.const (.bool false))) 4 24 true,
 gop nb 33 (.unOp .not 4 (qt 32)) 4 24 true,
 sop nb 34 (.pick (qt 24) (qt 33) (.const (.bool false))) 4]) (
    .cond (qt 34) (
     .seq (
     .ops [sop nb 6 (.assign (.const (.bool false))) 4]) (
     .ret)) (
     .skip)))) (
   .ops [qmv nb 12 7 3,
 qbo nb 13 .add 3 12 (qi 1) 3 3,
 qsg nb 7 13 3])))))) (
 .seq (
 .ops [qmv nb 35 1 22,
 qln nb 36 #[qt 35] #[22] 3,
 qcl nb 37 36 #[qt 36, qi 1, qi 7] #[3, 3, 3] 4,
 qsg nb 6 37 4]) (
 .ret)))
noncomputable def c26 (nb : Nat) : SC :=
 .seq (
 .ops [sop nb 2 (.box 25 (qt 0)) 0,
 sop nb 4 (.assign (qi 0)) 3]) (
 .seq (
 .opsD [sop nb 5 (.fieldAddr 25 (qt 2) 2) 0,
 qld nb 6 3 5,
 sop nb 7 (.binOp .mul 3 (qi 2) (qt 6) 3) 3,
 qld nb 8 25 2,
 qmv nb 9 1 22,
 qcl nb 10 78 #[qt 8, qt 9] #[25, 22] 3,
 qbo nb 11 .add 3 7 (qt 10) 3 3,
 qld nb 12 25 2,
 qmv nb 13 1 22,
 qcl nb 14 80 #[qt 12, qt 13] #[25, 22] 22,
 qcl nb 15 79 #[qt 14] #[22] 3,
 qbo nb 16 .add 3 11 (qt 15) 3 3,
 qsg nb 4 16 3] [(1, 5), (5, 7), (1, 9), (1, 10)]) (
 .ret))
noncomputable def c27 (nb : Nat) : SC :=
 .seq (
 .ops [sop nb 4 (.assign (.const (.bool false))) 4]) (
 .seq (
 .seq (
 .ops [sop nb 5 (.assign (qi 0)) 3]) (
 .block 0 (
  .loop (
   .seq (
   .seq (
   .ops [qmv nb 6 5 3,
 qmv nb 7 1 22,
 qln nb 8 #[qt 7] #[22] 3,
 qbo nb 9 .lss 3 6 (qt 8) 3 4]) (
   .cond (qt 9) (
    .skip) (
    .exit 0))) (
   .seq (
   .block 1 (
    .seq (
    .ops [qmv nb 12 1 22,
 qmv nb 13 5 3,
 qix nb 14 22 12 13 0,
 qld nb 15 3 14,
 qcl nb 16 36 #[qt 15, qi 0, qi 400] #[3, 3, 3] 4,
 sop nb 17 (.unOp .not 4 (qt 16)) 4]) (
    .cond (qt 17) (
     .seq (
     .ops [sop nb 4 (.assign (.const (.bool false))) 4]) (
     .ret)) (
     .skip)))) (
   .ops [qmv nb 10 5 3,
 qbo nb 11 .add 3 10 (qi 1) 3 3,
 qsg nb 5 11 3])))))) (
 .seq (
 .ops [qmv nb 18 1 22,
 qln nb 19 #[qt 18] #[22] 3,
 qmv nb 20 0 22,
 qln nb 21 #[qt 20] #[22] 3,
 qbo nb 22 .sub 3 21 (qi 1) 3 3,
 qbo nb 23 .eql 3 19 (qt 22) 3 4,
 qsg nb 4 23 4]) (
 .ret)))
noncomputable def c28 (nb : Nat) : SC :=
 .seq (
 .ops [sop nb 3 (.box 25 (qt 0)) 0,
 sop nb 6 (.assign (.const (.slice none 0 0))) 22]) (
 .seq (
 .ops [sop nb 9 (.buildSlice 22 0 #[]) 22,
 qsg nb 7 9 22]) (
 .seq (
 .seq (
 .ops [sop nb 8 (.assign (qi 0)) 3]) (
 .block 0 (
  .loop (
   .seq (
   .seq (
   .ops [qmv nb 10 8 3,
 qmv nb 11 2 22,
 qln nb 12 #[qt 11] #[22] 3,
 qbo nb 13 .lss 3 10 (qt 12) 3 4]) (
   .cond (qt 13) (
    .skip) (
    .exit 0))) (
   .seq (
   .block 1 (
    .opsD [qmv nb 16 7 22,
 qmv nb 17 2 22,
 qmv nb 18 8 3,
 qix nb 19 22 17 18 0,
 qld nb 20 3 19,
 qld nb 21 25 3,
 qmv nb 22 1 22,
 qmv nb 23 8 3,
 qix nb 24 22 22 23 0,
 qld nb 25 3 24,
 qmv nb 26 1 22,
 qmv nb 27 8 3,
 qbo nb 28 .add 3 27 (qi 1) 3 3,
 qix nb 29 22 26 28 0,
 qld nb 30 3 29,
 qcl nb 31 81 #[qt 21, qt 25, qt 30] #[25, 3, 3] 3,
 qbo nb 32 .add 3 20 (qt 31) 3 3,
 sop nb 33 (.buildSlice 22 1 #[(0, qt 32)]) 22,
 sop nb 34 (.call { callee := .builtin .append, args := #[qt 16, qt 33], argTypes := #[22, 22] }) 22,
 qsg nb 7 34 22] [(3, 15), (4, 15)])) (
   .ops [qmv nb 14 8 3,
 qbo nb 15 .add 3 14 (qi 1) 3 3,
 qsg nb 8 15 3])))))) (
 .seq (
 .ops [qmv nb 35 7 22,
 qsg nb 6 35 22]) (
 .ret))))
noncomputable def c29 (nb : Nat) : SC :=
 .seq (
 .ops [sop nb 2 (.assign (qi 0)) 3]) (
 .seq (
 .ops [sop nb 3 (.assign (qi 0)) 3]) (
 .seq (
 .seq (
 .ops [sop nb 4 (.assign (qi 0)) 3]) (
 .block 0 (
  .loop (
   .seq (
   .seq (
   .ops [qmv nb 6 4 3,
 qmv nb 7 0 22,
 qln nb 8 #[qt 7] #[22] 3,
 qbo nb 9 .lss 3 6 (qt 8) 3 4]) (
   .cond (qt 9) (
    .skip) (
    .exit 0))) (
   .seq (
   .block 1 (
    .seq (
    .ops [sop nb 5 (.assign (qi 0)) 3]) (
    .block 2 (
     .loop (
      .seq (
      .seq (
      .ops [qmv nb 12 5 3,
 qmv nb 13 0 22,
 qln nb 14 #[qt 13] #[22] 3,
 qbo nb 15 .lss 3 12 (qt 14) 3 4]) (
      .cond (qt 15) (
       .skip) (
       .exit 2))) (
      .seq (
      .block 3 (
       .ops [qmv nb 18 3 3,
 qmv nb 19 0 22,
 qmv nb 20 4 3,
 qix nb 21 22 19 20 0,
 qld nb 22 3 21,
 qmv nb 23 0 22,
 qmv nb 24 5 3,
 qix nb 25 22 23 24 0,
 qld nb 26 3 25,
 qbo nb 27 .sub 3 22 (qt 26) 3 3,
 sop nb 28 (.call { callee := .builtin .max, args := #[qt 18, qt 27], argTypes := #[3, 3] }) 3,
 qsg nb 3 28 3])) (
      .ops [qmv nb 16 5 3,
 qbo nb 17 .add 3 16 (qi 1) 3 3,
 qsg nb 5 17 3]))))))) (
   .ops [qmv nb 10 4 3,
 qbo nb 11 .add 3 10 (qi 1) 3 3,
 qsg nb 4 11 3])))))) (
 .seq (
 .ops [qmv nb 29 3 3,
 qsg nb 2 29 3]) (
 .ret))))
noncomputable def c31 (nb : Nat) : SC :=
 .seq (
 .ops [sop nb 3 (.box 25 (qt 0)) 0,
 sop nb 6 (.assign (qi 0)) 29]) (
 .seq (
 .ops [qld nb 8 25 3,
 qcl nb 9 22 #[qt 8] #[25] 29,
 qsg nb 7 9 29]) (
 .seq (
 .seq (
 .ops [qmv nb 10 7 29,
 qbo nb 11 .eql 29 10 (qi 0) 29 4,
 qmv nb 12 11 4,
 gop nb 13 (.load 25 (qt 3)) 25 12 true,
 gop nb 14 (.move (qt 1)) 22 12 true,
 gop nb 15 (.call { callee := .value (.func 25), args := #[qt 13, qt 14, (.const (.bool false))], argTypes := #[25, 22, 4] }) 4 12 true,
 gop nb 16 (.unOp .not 4 (qt 15)) 4 12 true,
 sop nb 17 (.pick (qt 12) (qt 16) (.const (.bool false))) 4]) (
 .cond (qt 17) (
  .ops [sop nb 7 (.assign (qi 4)) 29]) (
  .skip))) (
 .seq (
 .seq (
 .ops [qmv nb 18 7 29,
 qbo nb 19 .eql 29 18 (qi 0) 29 4,
 qmv nb 20 19 4,
 gop nb 21 (.move (qt 2)) 3 20 true,
 gop nb 22 (.call { callee := .value (.func 36), args := #[qt 21, qi 1, qi 400], argTypes := #[3, 3, 3] }) 4 20 true,
 gop nb 23 (.unOp .not 4 (qt 22)) 4 20 true,
 sop nb 24 (.pick (qt 20) (qt 23) (.const (.bool false))) 4]) (
 .cond (qt 24) (
  .ops [sop nb 7 (.assign (qi 3)) 29]) (
  .skip))) (
 .seq (
 .ops [qmv nb 25 7 29,
 qsg nb 6 25 29]) (
 .ret)))))
noncomputable def c36 (nb : Nat) : SC :=
 .seq (
 .ops [sop nb 6 (.assign (.const (.bool false))) 4]) (
 .seq (
 .ops [qmv nb 7 0 3,
 qmv nb 8 1 3,
 qbo nb 9 .geq 3 7 (qt 8) 3 4,
 qmv nb 10 9 4,
 gop nb 11 (.move (qt 0)) 3 10 true,
 gop nb 12 (.move (qt 2)) 3 10 true,
 gop nb 13 (.binOp .leq 3 (qt 11) (qt 12) 3) 4 10 true,
 sop nb 14 (.pick (qt 10) (qt 13) (.const (.bool false))) 4,
 qsg nb 6 14 4]) (
 .ret))
noncomputable def c38 (nb : Nat) : SC :=
 .seq (
 .ops [sop nb 2 (.assign (.const (.slice none 0 0))) 56]) (
 .seq (
 .ops [sop nb 5 (.buildSlice 56 0 #[]) 56,
 qsg nb 3 5 56]) (
 .seq (
 .seq (
 .ops [sop nb 4 (.assign (qi 0)) 3]) (
 .block 0 (
  .loop (
   .seq (
   .seq (
   .ops [qmv nb 6 4 3,
 qmv nb 7 0 56,
 qln nb 8 #[qt 7] #[56] 3,
 qbo nb 9 .lss 3 6 (qt 8) 3 4]) (
   .cond (qt 9) (
    .skip) (
    .exit 0))) (
   .seq (
   .block 1 (
    .ops [qmv nb 12 3 56,
 sop nb 13 (.buildSlice 22 0 #[]) 22,
 qmv nb 14 0 56,
 qmv nb 15 4 3,
 qix nb 16 56 14 15 0,
 qld nb 17 22 16,
 sop nb 18 (.call { callee := .builtin .append, args := #[qt 13, qt 17], argTypes := #[22, 22] }) 22,
 sop nb 19 (.buildSlice 56 1 #[(0, qt 18)]) 56,
 sop nb 20 (.call { callee := .builtin .append, args := #[qt 12, qt 19], argTypes := #[56, 56] }) 56,
 qsg nb 3 20 56])) (
   .ops [qmv nb 10 4 3,
 qbo nb 11 .add 3 10 (qi 1) 3 3,
 qsg nb 4 11 3])))))) (
 .seq (
 .ops [qmv nb 21 3 56,
 qsg nb 2 21 56]) (
 .ret))))
noncomputable def c40 (nb : Nat) : SC :=
 .seq (
 .ops [sop nb 4 (.assign (.const (.bool false))) 4]) (
 .seq (
 .seq (
 .ops [qmv nb 6 0 56,
 qln nb 7 #[qt 6] #[56] 3,
 qmv nb 8 1 56,
 qln nb 9 #[qt 8] #[56] 3,
 qbo nb 10 .neq 3 7 (qt 9) 3 4]) (
 .cond (qt 10) (
  .seq (
  .ops [sop nb 4 (.assign (.const (.bool false))) 4]) (
  .ret)) (
  .skip))) (
 .seq (
 .seq (
 .ops [sop nb 5 (.assign (qi 0)) 3]) (
 .block 0 (
  .loop (
   .seq (
   .seq (
   .ops [qmv nb 11 5 3,
 qmv nb 12 0 56,
 qln nb 13 #[qt 12] #[56] 3,
 qbo nb 14 .lss 3 11 (qt 13) 3 4]) (
   .cond (qt 14) (
    .skip) (
    .exit 0))) (
   .seq (
   .block 1 (
    .seq (
    .ops [qmv nb 17 0 56,
 qmv nb 18 5 3,
 qix nb 19 56 17 18 0,
 qld nb 20 22 19,
 qmv nb 21 1 56,
 qmv nb 22 5 3,
 qix nb 23 56 21 22 0,
 qld nb 24 22 23,
 qcl nb 25 24 #[qt 20, qt 24] #[22, 22] 4,
 sop nb 26 (.unOp .not 4 (qt 25)) 4]) (
    .cond (qt 26) (
     .seq (
     .ops [sop nb 4 (.assign (.const (.bool false))) 4]) (
     .ret)) (
     .skip)))) (
   .ops [qmv nb 15 5 3,
 qbo nb 16 .add 3 15 (qi 1) 3 3,
 qsg nb 5 16 3])))))) (
 .seq (
 .ops [sop nb 4 (.assign (.const (.bool true))) 4]) (
 .ret))))
@[go_sem] theorem rs40 : Go.Proofs.Try.f40.results.toList = [.tmp 4] := by kernel_rfl
theorem k40 (nb : Nat) : sk nb Go.Proofs.Try.f40.ntmps (Go.Proofs.Try.f40.body.getD .skip) = some (c40 nb) := by kernel_rfl
theorem w40 {a : List Arg} {r : RV} (h : W Q (c40 0) [] ⟨ρ0 (a.map fun a => a.m.lv), h0⟩ (retG Q Go.Proofs.Try.f40.results.toList (retF r))) (l : Nat.ble a.length Go.Proofs.Try.f40.ntmps = true := by kernel_rfl) : Fn Q 40 a r := fn_intro Go.Proofs.Try.func40 rfl (by kernel_rfl) mix (k40 0) (Nat.le_of_ble_eq_true l) h
noncomputable def c41 (nb : Nat) : SC :=
 .seq (
 .ops [sop nb 2 (.box 25 (qt 0)) 0,
 sop nb 4 (.assign (qi 0)) 29]) (
 .seq (
 .seq (
 .ops [sop nb 5 (.assign (qi 0)) 3]) (
 .block 0 (
  .loop (
   .seq (
   .seq (
   .ops [qmv nb 6 5 3,
 qmv nb 7 1 56,
 qln nb 8 #[qt 7] #[56] 3,
 qbo nb 9 .lss 3 6 (qt 8) 3 4]) (
   .cond (qt 9) (
    .skip) (
    .exit 0))) (
   .seq (
   .block 1 (
    .seq (
    .ops [qld nb 12 25 2,
 qmv nb 13 1 56,
 qmv nb 14 5 3,
 qix nb 15 56 13 14 0,
 qld nb 16 22 15,
 qcl nb 17 25 #[qt 12, qt 16, (.const (.bool false))] #[25, 22, 4] 4,
 sop nb 18 (.unOp .not 4 (qt 17)) 4]) (
    .cond (qt 18) (
     .seq (
     .ops [sop nb 4 (.assign (qi 4)) 29]) (
     .ret)) (
     .skip)))) (
   .ops [qmv nb 10 5 3,
 qbo nb 11 .add 3 10 (qi 1) 3 3,
 qsg nb 5 11 3])))))) (
 .seq (
 .ops [sop nb 4 (.assign (qi 0)) 29]) (
 .ret)))
noncomputable def c78 (nb : Nat) : SC :=
 .seq (
 .ops [sop nb 2 (.box 25 (qt 0)) 0,
 sop nb 4 (.assign (qi 0)) 3]) (
 .seq (
 .ops [sop nb 5 (.assign (qi 0)) 3]) (
 .seq (
 .seq (
 .ops [sop nb 6 (.assign (qi 0)) 3]) (
 .block 0 (
  .loop (
   .seq (
   .seq (
   .ops [qmv nb 7 6 3,
 qmv nb 8 1 22,
 qln nb 9 #[qt 8] #[22] 3,
 qbo nb 10 .lss 3 7 (qt 9) 3 4]) (
   .cond (qt 10) (
    .skip) (
    .exit 0))) (
   .seq (
   .block 1 (
    .ops [qmv nb 13 5 3,
 sop nb 14 (.fieldAddr 25 (qt 2) 0) 0,
 qld nb 15 22 14,
 qmv nb 16 1 22,
 qmv nb 17 6 3,
 qix nb 18 22 16 17 0,
 qld nb 19 3 18,
 qix nb 20 22 15 19 0,
 qld nb 21 3 20,
 qbo nb 22 .add 3 13 (qt 21) 3 3,
 qsg nb 5 22 3])) (
   .ops [qmv nb 11 6 3,
 qbo nb 12 .add 3 11 (qi 1) 3 3,
 qsg nb 6 12 3])))))) (
 .seq (
 .ops [qmv nb 23 5 3,
 qsg nb 4 23 3]) (
 .ret))))
noncomputable def c79 (nb : Nat) : SC :=
 .seq (
 .ops [sop nb 2 (.assign (qi 0)) 3]) (
 .seq (
 .ops [sop nb 3 (.assign (qi 0)) 3]) (
 .seq (
 .seq (
 .ops [sop nb 4 (.assign (qi 0)) 3]) (
 .block 0 (
  .loop (
   .seq (
   .seq (
   .ops [qmv nb 5 4 3,
 qmv nb 6 0 22,
 qln nb 7 #[qt 6] #[22] 3,
 qbo nb 8 .lss 3 5 (qt 7) 3 4]) (
   .cond (qt 8) (
    .skip) (
    .exit 0))) (
   .seq (
   .block 1 (
    .ops [qmv nb 11 3 3,
 qmv nb 12 0 22,
 qmv nb 13 4 3,
 qix nb 14 22 12 13 0,
 qld nb 15 3 14,
 qbo nb 16 .add 3 11 (qt 15) 3 3,
 qsg nb 3 16 3])) (
   .ops [qmv nb 9 4 3,
 qbo nb 10 .add 3 9 (qi 1) 3 3,
 qsg nb 4 10 3])))))) (
 .seq (
 .ops [qmv nb 17 3 3,
 qsg nb 2 17 3]) (
 .ret))))
noncomputable def c80 (nb : Nat) : SC :=
 .seq (
 .ops [sop nb 2 (.box 25 (qt 0)) 0,
 sop nb 4 (.assign (.const (.slice none 0 0))) 22]) (
 .seq (
 .ops [sop nb 7 (.buildSlice 22 0 #[]) 22,
 qsg nb 5 7 22]) (
 .seq (
 .seq (
 .ops [sop nb 6 (.assign (qi 1)) 3]) (
 .block 0 (
  .loop (
   .seq (
   .seq (
   .ops [qmv nb 8 6 3,
 qmv nb 9 1 22,
 qln nb 10 #[qt 9] #[22] 3,
 qbo nb 11 .lss 3 8 (qt 10) 3 4]) (
   .cond (qt 11) (
    .skip) (
    .exit 0))) (
   .seq (
   .block 1 (
    .ops [qmv nb 14 5 22,
 qld nb 15 25 2,
 qmv nb 16 1 22,
 qmv nb 17 6 3,
 qbo nb 18 .sub 3 17 (qi 1) 3 3,
 qix nb 19 22 16 18 0,
 qld nb 20 3 19,
 qmv nb 21 1 22,
 qmv nb 22 6 3,
 qix nb 23 22 21 22 0,
 qld nb 24 3 23,
 qcl nb 25 113 #[qt 15, qt 20, qt 24] #[25, 3, 3] 3,
 sop nb 26 (.buildSlice 22 1 #[(0, qt 25)]) 22,
 sop nb 27 (.call { callee := .builtin .append, args := #[qt 14, qt 26], argTypes := #[22, 22] }) 22,
 qsg nb 5 27 22])) (
   .ops [qmv nb 12 6 3,
 qbo nb 13 .add 3 12 (qi 1) 3 3,
 qsg nb 6 13 3])))))) (
 .seq (
 .ops [qmv nb 28 5 22,
 qsg nb 4 28 22]) (
 .ret))))
noncomputable def c81 (nb : Nat) : SC :=
 .seq (
 .ops [sop nb 3 (.box 25 (qt 0)) 0,
 sop nb 6 (.assign (qi 0)) 3]) (
 .seq (
 .seq (
 .ops [sop nb 7 (.assign (qi 0)) 3]) (
 .block 0 (
  .loop (
   .seq (
   .seq (
   .ops [qmv nb 8 7 3,
 sop nb 9 (.fieldAddr 25 (qt 3) 1) 0,
 qld nb 10 23 9,
 qln nb 11 #[qt 10] #[23] 3,
 qbo nb 12 .lss 3 8 (qt 11) 3 4]) (
   .cond (qt 12) (
    .skip) (
    .exit 0))) (
   .seq (
   .block 1 (
    .seq (
    .ops [sop nb 15 (.fieldAddr 25 (qt 3) 1) 0,
 qld nb 16 23 15,
 qmv nb 17 7 3,
 qix nb 18 23 16 17 0,
 sop nb 19 (.fieldAddr 108 (qt 18) 0) 0,
 qld nb 20 3 19,
 qmv nb 21 1 3,
 qbo nb 22 .eql 3 20 (qt 21) 3 4,
 qmv nb 23 22 4,
 gop nb 24 (.fieldAddr 25 (qt 3) 1) 0 23 true,
 gop nb 25 (.load 23 (qt 24)) 23 23 true,
 gop nb 26 (.move (qt 7)) 3 23 true,
 gop nb 27 (.indexAddr 23 (qt 25) (qt 26)) 0 23 true,
 gop nb 28 (.fieldAddr 108 (qt 27) 1) 0 23 true,
 gop nb 29 (.load 3 (qt 28)) 3 23 true,
 gop nb 30 (.move (qt 2)) 3 23 true,
 gop nb 31 (.binOp .eql 3 (qt 29) (qt 30) 3) 4 23 true,
 sop nb 32 (.pick (qt 23) (qt 31) (.const (.bool false))) 4]) (
    .cond (qt 32) (
     .seq (
     .ops [sop nb 33 (.fieldAddr 25 (qt 3) 1) 0,
 qld nb 34 23 33,
 qmv nb 35 7 3,
 qix nb 36 23 34 35 0,
 sop nb 37 (.fieldAddr 108 (qt 36) 2) 0,
 qld nb 38 3 37,
 qsg nb 6 38 3]) (
     .ret)) (
     .skip)))) (
   .ops [qmv nb 13 7 3,
 qbo nb 14 .add 3 13 (qi 1) 3 3,
 qsg nb 7 14 3])))))) (
 .seq (
 .ops [sop nb 6 (.assign (qi 0)) 3]) (
 .ret)))
noncomputable def c113 (nb : Nat) : SC :=
 .seq (
 .ops [sop nb 3 (.box 25 (qt 0)) 0,
 sop nb 6 (.assign (qi 0)) 3]) (
 .seq (
 .ops [sop nb 7 (.assign (qi 0)) 3]) (
 .seq (
 .block 0 (
  .loop (
   .seq (
   .seq (
   .opsD [qmv nb 8 7 3,
 qld nb 9 25 3,
 qmv nb 10 1 3,
 qmv nb 11 2 3,
 qcl nb 12 81 #[qt 9, qt 10, qt 11] #[25, 3, 3] 3,
 qbo nb 13 .add 3 8 (qt 12) 3 3,
 sop nb 14 (.fieldAddr 25 (qt 3) 3) 0,
 qld nb 15 3 14,
 qbo nb 16 .lss 3 13 (qt 15) 3 4] [(4, 7)]) (
   .cond (qt 16) (
    .skip) (
    .exit 0))) (
   .block 1 (
    .ops [qmv nb 17 7 3,
 qbo nb 18 .add 3 17 (qi 1) 3 3,
 qsg nb 7 18 3]))))) (
 .seq (
 .ops [qmv nb 19 7 3,
 qsg nb 6 19 3]) (
 .ret))))
noncomputable def c119 (nb : Nat) : SC :=
 .seq (
 .ops [sop nb 4 (.assign (.const (.bool false))) 4]) (
 .seq (
 .seq (
 .ops [sop nb 5 (.assign (qi 0)) 3]) (
 .block 0 (
  .loop (
   .seq (
   .seq (
   .ops [qmv nb 6 5 3,
 qmv nb 7 0 22,
 qln nb 8 #[qt 7] #[22] 3,
 qbo nb 9 .lss 3 6 (qt 8) 3 4]) (
   .cond (qt 9) (
    .skip) (
    .exit 0))) (
   .seq (
   .block 1 (
    .seq (
    .ops [qmv nb 12 0 22,
 qmv nb 13 5 3,
 qix nb 14 22 12 13 0,
 qld nb 15 3 14,
 qmv nb 16 1 3,
 qbo nb 17 .eql 3 15 (qt 16) 3 4]) (
    .cond (qt 17) (
     .seq (
     .ops [sop nb 4 (.assign (.const (.bool true))) 4]) (
     .ret)) (
     .skip)))) (
   .ops [qmv nb 10 5 3,
 qbo nb 11 .add 3 10 (qi 1) 3 3,
 qsg nb 5 11 3])))))) (
 .seq (
 .ops [sop nb 4 (.assign (.const (.bool false))) 4]) (
 .ret)))
end S04

namespace S04
open Go Abs
noncomputable def c17 (nb : Nat) : SC :=
 .seq (
 .ops [sop nb 0 (.assign (.const (.bool false))) 4]) (
 .seq (
 .ops [sop nb 26 (.buildSlice 22 4 #[(0, qi 0), (1, qi 1), (2, qi 2), (3, qi 3)]) 22,
 qsg nb 1 26 22]) (
 .seq (
 .ops [qcl nb 28 68 #[] #[] 25,
 qmv nb 29 1 22,
 qcl nb 30 20 #[qt 28, qt 29] #[25, 22] 31,
 qmv nb 27 30 31,
 qex nb 31 27 0 3,
 qex nb 32 27 1 29,
 qsg nb 2 31 3,
 qsg nb 3 32 29]) (
 .seq (
 .ops [qcl nb 34 68 #[] #[] 25,
 qmv nb 35 1 22,
 sop nb 36 (.buildSlice 22 3 #[(0, qi 2), (1, qi 5), (2, qi 6)]) 22,
 qcl nb 37 21 #[qt 34, qt 35, qt 36] #[25, 22, 22] 33,
 qmv nb 33 37 33,
 qex nb 38 33 0 22,
 qex nb 39 33 1 3,
 qex nb 40 33 2 29,
 qsg nb 4 38 22,
 qsg nb 5 39 3,
 qsg nb 6 40 29]) (
 .seq (
 .ops [qcl nb 42 68 #[] #[] 25,
 qmv nb 43 1 22,
 qcl nb 44 30 #[qt 42, qt 43, qi 54] #[25, 22, 3] 33,
 qmv nb 41 44 33,
 qex nb 45 41 0 22,
 qex nb 46 41 1 3,
 qex nb 47 41 2 29,
 qsg nb 7 45 22,
 qsg nb 8 46 3,
 qsg nb 9 47 29]) (
 .seq (
 .ops [qcl nb 49 68 #[] #[] 25,
 qmv nb 50 1 22,
 qcl nb 51 30 #[qt 49, qt 50, qi 44] #[25, 22, 3] 33,
 qmv nb 48 51 33,
 qex nb 52 48 0 22,
 qex nb 53 48 1 3,
 qex nb 54 48 2 29,
 qsg nb 10 52 22,
 qsg nb 11 53 3,
 qsg nb 12 54 29]) (
 .seq (
 .ops [qcl nb 56 68 #[] #[] 25,
 qmv nb 57 1 22,
 qcl nb 58 33 #[qt 56, qt 57, qi 36] #[25, 22, 3] 48,
 qmv nb 55 58 48,
 qex nb 59 55 0 22,
 qex nb 60 55 1 29,
 qsg nb 13 59 22,
 qsg nb 14 60 29]) (
 .seq (
 .ops [qcl nb 62 68 #[] #[] 25,
 qmv nb 63 1 22,
 qcl nb 64 34 #[qt 62, qt 63, qi 2, qi 60] #[25, 22, 3, 3] 31,
 qmv nb 61 64 31,
 qex nb 65 61 0 3,
 qex nb 66 61 1 29,
 qsg nb 15 65 3,
 qsg nb 16 66 29]) (
 .seq (
 .ops [qcl nb 68 68 #[] #[] 25,
 sop nb 69 (.buildSlice 22 2 #[(0, qi 0), (1, qi 1)]) 22,
 sop nb 70 (.buildSlice 22 2 #[(0, qi 2), (1, qi 3)]) 22,
 sop nb 71 (.buildSlice 22 2 #[(0, qi 3), (1, qi 2)]) 22,
 sop nb 72 (.buildSlice 56 3 #[(0, qt 69), (1, qt 70), (2, qt 71)]) 56,
 qcl nb 73 39 #[qt 68, qt 72, qi 50] #[25, 56, 3] 33,
 qmv nb 67 73 33,
 qex nb 74 67 0 22,
 qex nb 75 67 1 3,
 qex nb 76 67 2 29,
 qsg nb 17 74 22,
 qsg nb 18 75 3,
 qsg nb 19 76 29]) (
 .seq (
 .ops [qcl nb 78 68 #[] #[] 25,
 sop nb 79 (.buildSlice 22 2 #[(0, qi 0), (1, qi 1)]) 22,
 sop nb 80 (.buildSlice 22 2 #[(0, qi 2), (1, qi 3)]) 22,
 sop nb 81 (.buildSlice 56 2 #[(0, qt 79), (1, qt 80)]) 56,
 sop nb 82 (.buildSlice 22 4 #[(0, qi 40), (1, qi 25), (2, qi 30), (3, qi 50)]) 22,
 qcl nb 83 43 #[qt 78, qt 81, qt 82] #[25, 56, 22] 48,
 qmv nb 77 83 48,
 qex nb 84 77 0 22,
 qex nb 85 77 1 29,
 qsg nb 20 84 22,
 qsg nb 21 85 29]) (
 .seq (
 .ops [qcl nb 87 68 #[] #[] 25,
 qmv nb 88 1 22,
 sop nb 89 (.buildSlice 22 3 #[(0, qi 2), (1, qi 5), (2, qi 9)]) 22,
 qcl nb 90 45 #[qt 87, qt 88, qt 89, qi 1] #[25, 22, 22, 3] 48,
 qmv nb 86 90 48,
 qex nb 91 86 0 22,
 qex nb 92 86 1 29,
 qsg nb 22 91 22,
 qsg nb 23 92 29]) (
 .seq (
 .ops [qcl nb 94 68 #[] #[] 25,
 sop nb 95 (.buildSlice 22 3 #[(0, qi 0), (1, (qi (-1))), (2, qi 3)]) 22,
 sop nb 96 (.buildSlice 22 2 #[(0, qi 2), (1, qi 5)]) 22,
 qcl nb 97 67 #[qi 40, qi 45] #[3, 3] 71,
 qcl nb 98 47 #[qt 94, qt 95, qt 96, qt 97] #[25, 22, 22, 71] 72,
 qmv nb 93 98 72,
 qex nb 99 93 0 56,
 qex nb 100 93 1 29,
 qsg nb 24 99 56,
 qsg nb 25 100 29]) (
 .seq (
 .seq (
 .ops [qmv nb 101 3 29,
 qbo nb 102 .neq 29 101 (qi 0) 29 4,
 qmv nb 103 102 4,
 gop nb 104 (.move (qt 6)) 29 103 false,
 gop nb 105 (.binOp .neq 29 (qt 104) (qi 0) 29) 4 103 false,
 sop nb 106 (.pick (qt 103) (.const (.bool true)) (qt 105)) 4,
 qmv nb 107 106 4,
 gop nb 108 (.move (qt 9)) 29 107 false,
 gop nb 109 (.binOp .neq 29 (qt 108) (qi 0) 29) 4 107 false,
 sop nb 110 (.pick (qt 107) (.const (.bool true)) (qt 109)) 4,
 qmv nb 111 110 4,
 gop nb 112 (.move (qt 12)) 29 111 false,
 gop nb 113 (.binOp .neq 29 (qt 112) (qi 8) 29) 4 111 false,
 sop nb 114 (.pick (qt 111) (.const (.bool true)) (qt 113)) 4,
 qmv nb 115 114 4,
 gop nb 116 (.move (qt 14)) 29 115 false,
 gop nb 117 (.binOp .neq 29 (qt 116) (qi 0) 29) 4 115 false,
 sop nb 118 (.pick (qt 115) (.const (.bool true)) (qt 117)) 4,
 qmv nb 119 118 4,
 gop nb 120 (.move (qt 16)) 29 119 false,
 gop nb 121 (.binOp .neq 29 (qt 120) (qi 0) 29) 4 119 false,
 sop nb 122 (.pick (qt 119) (.const (.bool true)) (qt 121)) 4,
 qmv nb 123 122 4,
 gop nb 124 (.move (qt 19)) 29 123 false,
 gop nb 125 (.binOp .neq 29 (qt 124) (qi 0) 29) 4 123 false,
 sop nb 126 (.pick (qt 123) (.const (.bool true)) (qt 125)) 4,
 qmv nb 127 126 4,
 gop nb 128 (.move (qt 21)) 29 127 false,
 gop nb 129 (.binOp .neq 29 (qt 128) (qi 0) 29) 4 127 false,
 sop nb 130 (.pick (qt 127) (.const (.bool true)) (qt 129)) 4,
 qmv nb 131 130 4,
 gop nb 132 (.move (qt 23)) 29 131 false,
 gop nb 133 (.binOp .neq 29 (qt 132) (qi 0) 29) 4 131 false,
 sop nb 134 (.pick (qt 131) (.const (.bool true)) (qt 133)) 4,
 qmv nb 135 134 4,
 gop nb 136 (.move (qt 25)) 29 135 false,
 gop nb 137 (.binOp .neq 29 (qt 136) (qi 0) 29) 4 135 false,
 sop nb 138 (.pick (qt 135) (.const (.bool true)) (qt 137)) 4]) (
 .cond (qt 138) (
  .seq (
  .ops [sop nb 0 (.assign (.const (.bool false))) 4]) (
  .ret)) (
  .skip))) (
 .seq (
 .ops [qmv nb 139 2 3,
 qbo nb 140 .eql 3 139 (qi 45) 3 4,
 qmv nb 141 140 4,
 gop nb 142 (.move (qt 4)) 22 141 true,
 gop nb 143 (.buildSlice 22 3 #[(0, qi 5), (1, qi 5), (2, qi 6)]) 22 141 true,
 gop nb 144 (.call { callee := .value (.func 24), args := #[qt 142, qt 143], argTypes := #[22, 22] }) 4 141 true,
 sop nb 145 (.pick (qt 141) (qt 144) (.const (.bool false))) 4,
 qmv nb 146 145 4,
 gop nb 147 (.move (qt 5)) 3 146 true,
 gop nb 148 (.binOp .eql 3 (qt 147) (qi 1) 3) 4 146 true,
 sop nb 149 (.pick (qt 146) (qt 148) (.const (.bool false))) 4,
 qmv nb 150 149 4,
 gop nb 151 (.move (qt 7)) 22 150 true,
 gop nb 152 (.buildSlice 22 3 #[(0, qi 2), (1, qi 5), (2, qi 6)]) 22 150 true,
 gop nb 153 (.call { callee := .value (.func 24), args := #[qt 151, qt 152], argTypes := #[22, 22] }) 4 150 true,
 sop nb 154 (.pick (qt 150) (qt 153) (.const (.bool false))) 4,
 qmv nb 155 154 4,
 gop nb 156 (.move (qt 8)) 3 155 true,
 gop nb 157 (.binOp .eql 3 (qt 156) (qi 1) 3) 4 155 true,
 sop nb 158 (.pick (qt 155) (qt 157) (.const (.bool false))) 4,
 qmv nb 159 158 4,
 gop nb 160 (.move (qt 13)) 22 159 true,
 gop nb 161 (.buildSlice 22 1 #[(0, qi 0)]) 22 159 true,
 gop nb 162 (.call { callee := .value (.func 24), args := #[qt 160, qt 161], argTypes := #[22, 22] }) 4 159 true,
 sop nb 163 (.pick (qt 159) (qt 162) (.const (.bool false))) 4,
 qmv nb 164 163 4,
 gop nb 165 (.move (qt 15)) 3 164 true,
 gop nb 166 (.binOp .eql 3 (qt 165) (qi 18) 3) 4 164 true,
 sop nb 167 (.pick (qt 164) (qt 166) (.const (.bool false))) 4,
 qmv nb 168 167 4,
 gop nb 169 (.move (qt 17)) 22 168 true,
 gop nb 170 (.buildSlice 22 2 #[(0, qi 0), (1, qi 1)]) 22 168 true,
 gop nb 171 (.call { callee := .value (.func 24), args := #[qt 169, qt 170], argTypes := #[22, 22] }) 4 168 true,
 sop nb 172 (.pick (qt 168) (qt 171) (.const (.bool false))) 4,
 qmv nb 173 172 4,
 gop nb 174 (.move (qt 18)) 3 173 true,
 gop nb 175 (.binOp .eql 3 (qt 174) (qi 20) 3) 4 173 true,
 sop nb 176 (.pick (qt 173) (qt 175) (.const (.bool false))) 4,
 qmv nb 177 176 4,
 gop nb 178 (.move (qt 20)) 22 177 true,
 gop nb 179 (.buildSlice 22 2 #[(0, qi 2), (1, qi 1)]) 22 177 true,
 gop nb 180 (.call { callee := .value (.func 24), args := #[qt 178, qt 179], argTypes := #[22, 22] }) 4 177 true,
 sop nb 181 (.pick (qt 177) (qt 180) (.const (.bool false))) 4,
 qmv nb 182 181 4,
 gop nb 183 (.move (qt 22)) 22 182 true,
 gop nb 184 (.buildSlice 22 1 #[(0, qi 2)]) 22 182 true,
 gop nb 185 (.call { callee := .value (.func 24), args := #[qt 183, qt 184], argTypes := #[22, 22] }) 4 182 true,
 sop nb 186 (.pick (qt 182) (qt 185) (.const (.bool false))) 4,
 qmv nb 187 186 4,
 gop nb 188 (.move (qt 24)) 56 187 true,
 gop nb 189 (.buildSlice 22 3 #[(0, qi 0), (1, qi 1), (2, qi 3)]) 22 187 true,
 gop nb 190 (.buildSlice 56 1 #[(0, qt 189)]) 56 187 true,
 gop nb 191 (.call { callee := .value (.func 40), args := #[qt 188, qt 190], argTypes := #[56, 56] }) 4 187 true,
 sop nb 192 (.pick (qt 187) (qt 191) (.const (.bool false))) 4,
 qsg nb 0 192 4]) (
 .ret))))))))))))))
@[go_sem] theorem rs17 : Go.Proofs.Try.f17.results.toList = [.tmp 0] := by kernel_rfl
theorem k17 (nb : Nat) : sk nb Go.Proofs.Try.f17.ntmps (Go.Proofs.Try.f17.body.getD .skip) = some (c17 nb) := by kernel_rfl
theorem w17 {a : List Arg} {r : RV} (h : W Q (c17 0) [] ⟨ρ0 (a.map fun a => a.m.lv), h0⟩ (retG Q Go.Proofs.Try.f17.results.toList (retF r))) (l : Nat.ble a.length Go.Proofs.Try.f17.ntmps = true := by kernel_rfl) : Fn Q 17 a r := fn_intro Go.Proofs.Try.func17 rfl (by kernel_rfl) mix (k17 0) (Nat.le_of_ble_eq_true l) h
noncomputable def c19 (nb : Nat) : SC :=
 .seq (
 .ops [sop nb 1 (.box 25 (qt 0)) 0,
 sop nb 2 (.assign (qi 0)) 29]) (
 .seq (
 .ops [sop nb 5 (.makeFunc (.func 69) #[] #[qt 1]) 110,
 qsg nb 3 5 110]) (
 .seq (
 .block 0 (
  .seq (
  .seq (
  .ops [sop nb 7 (.fieldAddr 25 (qt 1) 0) 0,
 qld nb 8 22 7,
 qln nb 9 #[qt 8] #[22] 3,
 sop nb 10 (.buildSlice 22 1 #[(0, qt 9)]) 22,
 qcl nb 11 70 #[qi 1, qi 8, qt 10] #[3, 3, 22] 4,
 sop nb 12 (.unOp .not 4 (qt 11)) 4,
 qsg nb 6 12 4]) (
  .cond (qt 6) (
   .skip) (
   .ops [sop nb 13 (.fieldAddr 25 (qt 1) 0) 0,
 qld nb 14 22 13,
 qcl nb 15 70 #[qi 1, qi 30, qt 14] #[3, 3, 22] 4,
 sop nb 16 (.unOp .not 4 (qt 15)) 4,
 qsg nb 6 16 4]))) (
  .cond (qt 6) (
   .seq (
   .ops [sop nb 2 (.assign (qi 4)) 29]) (
   .ret)) (
   .seq (
   .seq (
   .ops [sop nb 18 (.fieldAddr 25 (qt 1) 2) 0,
 qld nb 19 3 18,
 sop nb 20 (.buildSlice 22 1 #[(0, qt 19)]) 22,
 qcl nb 21 70 #[qi 0, qi 20, qt 20] #[3, 3, 22] 4,
 sop nb 22 (.unOp .not 4 (qt 21)) 4,
 qsg nb 17 22 4]) (
   .cond (qt 17) (
    .skip) (
    .seq (
    .ops [sop nb 23 (.fieldAddr 25 (qt 1) 3) 0,
 qld nb 24 3 23,
 sop nb 25 (.buildSlice 22 1 #[(0, qt 24)]) 22,
 qcl nb 26 70 #[qi 0, qi 10, qt 25] #[3, 3, 22] 4,
 sop nb 27 (.unOp .not 4 (qt 26)) 4,
 qsg nb 17 27 4]) (
    .cond (qt 17) (
     .skip) (
     .ops [sop nb 28 (.fieldAddr 25 (qt 1) 4) 0,
 qld nb 29 3 28,
 sop nb 30 (.buildSlice 22 1 #[(0, qt 29)]) 22,
 qcl nb 31 70 #[qi 0, qi 30, qt 30] #[3, 3, 22] 4,
 sop nb 32 (.unOp .not 4 (qt 31)) 4,
 qsg nb 17 32 4]))))) (
   .cond (qt 17) (
    .seq (
    .ops [sop nb 2 (.assign (qi 4)) 29]) (
    .ret)) (
    .seq (
    .ops [sop nb 34 (.fieldAddr 25 (qt 1) 1) 0,
 qld nb 35 23 34,
 qln nb 36 #[qt 35] #[23] 3,
 qbo nb 37 .gtr 3 36 (qi 10) 3 4,
 qsg nb 33 37 4]) (
    .cond (qt 33) (
     .seq (
     .ops [sop nb 2 (.assign (qi 5)) 29]) (
     .ret)) (
     .seq (
     .ops [sop nb 39 (.fieldAddr 25 (qt 1) 1) 0,
 qld nb 40 23 39,
 qmv nb 41 3 110,
 qcl nb 42 71 #[qt 40, qt 41] #[23, 110] 4,
 qsg nb 38 42 4]) (
     .cond (qt 38) (
      .seq (
      .ops [sop nb 2 (.assign (qi 2)) 29]) (
      .ret)) (
      .skip)))))))))) (
 .seq (
 .seq (
 .ops [qld nb 43 25 1,
 qcl nb 44 72 #[qt 43] #[25] 112,
 qsg nb 4 44 112]) (
 .seq (
 .ops [qmv nb 45 4 112,
 qln nb 46 #[qt 45] #[112] 3,
 sop nb 47 (.fieldAddr 25 (qt 1) 1) 0,
 qld nb 48 23 47,
 qln nb 49 #[qt 48] #[23] 3,
 qbo nb 50 .lss 3 46 (qt 49) 3 4]) (
 .cond (qt 50) (
  .seq (
  .ops [sop nb 2 (.assign (qi 6)) 29]) (
  .ret)) (
  .skip)))) (
 .seq (
 .ops [sop nb 2 (.assign (qi 0)) 29]) (
 .ret)))))
@[go_sem] theorem rs19 : Go.Proofs.Try.f19.results.toList = [.tmp 2] := by kernel_rfl
theorem k19 (nb : Nat) : sk nb Go.Proofs.Try.f19.ntmps (Go.Proofs.Try.f19.body.getD .skip) = some (c19 nb) := by kernel_rfl
theorem w19 {a : List Arg} {r : RV} (h : W Q (c19 0) [] ⟨ρ0 (a.map fun a => a.m.lv), h0⟩ (retG Q Go.Proofs.Try.f19.results.toList (retF r))) (l : Nat.ble a.length Go.Proofs.Try.f19.ntmps = true := by kernel_rfl) : Fn Q 19 a r := fn_intro Go.Proofs.Try.func19 rfl (by kernel_rfl) mix (k19 0) (Nat.le_of_ble_eq_true l) h
noncomputable def c20 (nb : Nat) : SC :=
 .seq (
 .ops [sop nb 2 (.box 25 (qt 0)) 0,
 sop nb 4 (.assign (qi 0)) 3,
 sop nb 5 (.assign (qi 0)) 29]) (
 .seq (
 .ops [qld nb 9 25 2,
 qmv nb 10 1 22,
 sop nb 11 (.buildSlice 56 1 #[(0, qt 10)]) 56,
 qcl nb 12 73 #[qt 9, qt 11] #[25, 56] 116,
 qmv nb 8 12 116,
 qex nb 13 8 0 115,
 qex nb 14 8 1 29,
 sop nb 6 (.alloc 115) 0,
 nop (.store 115 (qt 6) (qt 13)) 0,
 qsg nb 7 14 29]) (
 .seq (
 .seq (
 .ops [qmv nb 15 7 29,
 qbo nb 16 .neq 29 15 (qi 0) 29 4]) (
 .cond (qt 16) (
  .seq (
  .ops [qmv nb 17 7 29,
 sop nb 4 (.assign (qi 0)) 3,
 qsg nb 5 17 29]) (
  .ret)) (
  .skip))) (
 .seq (
 .ops [qld nb 18 115 6,
 qmv nb 19 1 22,
 qcl nb 20 74 #[qt 18, qt 19] #[115, 22] 3,
 qsg nb 4 20 3,
 sop nb 5 (.assign (qi 0)) 29]) (
 .ret))))
@[go_sem] theorem rs20 : Go.Proofs.Try.f20.results.toList = [.tmp 4, .tmp 5] := by kernel_rfl
theorem k20 (nb : Nat) : sk nb Go.Proofs.Try.f20.ntmps (Go.Proofs.Try.f20.body.getD .skip) = some (c20 nb) := by kernel_rfl
theorem w20 {a : List Arg} {r : RV} (h : W Q (c20 0) [] ⟨ρ0 (a.map fun a => a.m.lv), h0⟩ (retG Q Go.Proofs.Try.f20.results.toList (retF r))) (l : Nat.ble a.length Go.Proofs.Try.f20.ntmps = true := by kernel_rfl) : Fn Q 20 a r := fn_intro Go.Proofs.Try.func20 rfl (by kernel_rfl) mix (k20 0) (Nat.le_of_ble_eq_true l) h
noncomputable def c21 (nb : Nat) : SC :=
 .seq (
 .ops [sop nb 3 (.box 25 (qt 0)) 0,
 sop nb 6 (.assign (.const (.slice none 0 0))) 22,
 sop nb 7 (.assign (qi 0)) 3,
 sop nb 8 (.assign (qi 0)) 29]) (
 .seq (
 .ops [qld nb 13 25 3,
 qmv nb 14 1 22,
 sop nb 15 (.buildSlice 56 1 #[(0, qt 14)]) 56,
 qcl nb 16 73 #[qt 13, qt 15] #[25, 56] 116,
 qmv nb 12 16 116,
 qex nb 17 12 0 115,
 qex nb 18 12 1 29,
 sop nb 9 (.alloc 115) 0,
 nop (.store 115 (qt 9) (qt 17)) 0,
 qsg nb 8 18 29]) (
 .seq (
 .block 0 (
  .seq (
  .ops [qmv nb 20 8 29,
 qbo nb 21 .neq 29 20 (qi 0) 29 4,
 qsg nb 19 21 4]) (
  .cond (qt 19) (
   .seq (
   .ops [qmv nb 22 8 29,
 sop nb 6 (.assign (.const (.slice none 0 0))) 22,
 sop nb 7 (.assign (qi 0)) 3,
 qsg nb 8 22 29]) (
   .ret)) (
   .seq (
   .ops [qmv nb 24 1 22,
 qmv nb 25 2 22,
 qcl nb 26 75 #[qt 24, qt 25] #[22, 22] 4,
 sop nb 27 (.unOp .not 4 (qt 26)) 4,
 qsg nb 23 27 4]) (
   .cond (qt 23) (
    .seq (
    .ops [sop nb 6 (.assign (.const (.slice none 0 0))) 22,
 sop nb 7 (.assign (qi 0)) 3,
 sop nb 8 (.assign (qi 4)) 29]) (
    .ret)) (
    .skip)))))) (
 .seq (
 .seq (
 .ops [qld nb 28 115 9,
 qmv nb 29 1 22,
 qcl nb 30 76 #[qt 28, qt 29] #[115, 22] 22,
 qln nb 31 #[qt 30] #[22] 3,
 sop nb 32 (.move (qi 0)) 3]) (
 .block 1 (
  .loop (
   .seq (
   .ops [qbo nb 33 .lss 3 32 (qt 31) 3 0]) (
   .seq (
   .cond (qt 33) (
    .skip) (
    .exit 1)) (
   .seq (
   .block 2 (
    .seq (
    .ops [qmv nb 34 32 3,
 qix nb 35 22 30 32 0,
 qld nb 36 3 35,
 qsg nb 10 34 3,
 qsg nb 11 36 3]) (
    .ops [qmv nb 37 6 22,
 qmv nb 38 2 22,
 qmv nb 39 10 3,
 qix nb 40 22 38 39 0,
 qld nb 41 3 40,
 qmv nb 42 11 3,
 qbo nb 43 .add 3 41 (qt 42) 3 3,
 sop nb 44 (.buildSlice 22 1 #[(0, qt 43)]) 22,
 sop nb 45 (.call { callee := .builtin .append, args := #[qt 37, qt 44], argTypes := #[22, 22] }) 22,
 qsg nb 6 45 22]))) (
   .ops [qbo nb 46 .add 3 32 (qi 1) 3 3,
 qmv nb 32 46 3]))))))) (
 .seq (
 .ops [qmv nb 47 6 22,
 qmv nb 48 6 22,
 qcl nb 49 77 #[qt 48] #[22] 3,
 qsg nb 6 47 22,
 qsg nb 7 49 3,
 sop nb 8 (.assign (qi 0)) 29]) (
 .ret)))))
@[go_sem] theorem rs21 : Go.Proofs.Try.f21.results.toList = [.tmp 6, .tmp 7, .tmp 8] := by kernel_rfl
theorem k21 (nb : Nat) : sk nb Go.Proofs.Try.f21.ntmps (Go.Proofs.Try.f21.body.getD .skip) = some (c21 nb) := by kernel_rfl
theorem w21 {a : List Arg} {r : RV} (h : W Q (c21 0) [] ⟨ρ0 (a.map fun a => a.m.lv), h0⟩ (retG Q Go.Proofs.Try.f21.results.toList (retF r))) (l : Nat.ble a.length Go.Proofs.Try.f21.ntmps = true := by kernel_rfl) : Fn Q 21 a r := fn_intro Go.Proofs.Try.func21 rfl (by kernel_rfl) mix (k21 0) (Nat.le_of_ble_eq_true l) h
noncomputable def c30 (nb : Nat) : SC :=
 .seq (
 .ops [sop nb 3 (.box 25 (qt 0)) 0,
 sop nb 6 (.assign (.const (.slice none 0 0))) 22,
 sop nb 7 (.assign (qi 0)) 3,
 sop nb 8 (.assign (qi 0)) 29]) (
 .seq (
 .ops [qld nb 15 25 3,
 qmv nb 16 1 22,
 sop nb 17 (.buildSlice 56 1 #[(0, qt 16)]) 56,
 qcl nb 18 73 #[qt 15, qt 17] #[25, 56] 116,
 qmv nb 14 18 116,
 qex nb 19 14 0 115,
 qex nb 20 14 1 29,
 sop nb 9 (.alloc 115) 0,
 nop (.store 115 (qt 9) (qt 19)) 0,
 qsg nb 8 20 29]) (
 .seq (
 .block 0 (
  .seq (
  .ops [qmv nb 22 8 29,
 qbo nb 23 .neq 29 22 (qi 0) 29 4,
 qsg nb 21 23 4]) (
  .cond (qt 21) (
   .seq (
   .ops [qmv nb 24 8 29,
 sop nb 6 (.assign (.const (.slice none 0 0))) 22,
 sop nb 7 (.assign (qi 0)) 3,
 qsg nb 8 24 29]) (
   .ret)) (
   .seq (
   .ops [qmv nb 26 2 3,
 sop nb 27 (.buildSlice 22 1 #[(0, qt 26)]) 22,
 qcl nb 28 82 #[qt 27] #[22] 4,
 sop nb 29 (.unOp .not 4 (qt 28)) 4,
 qsg nb 25 29 4]) (
   .cond (qt 25) (
    .seq (
    .ops [sop nb 6 (.assign (.const (.slice none 0 0))) 22,
 sop nb 7 (.assign (qi 0)) 3,
 sop nb 8 (.assign (qi 3)) 29]) (
    .ret)) (
    .seq (
    .ops [qld nb 31 115 9,
 qmv nb 32 1 22,
 qcl nb 33 74 #[qt 31, qt 32] #[115, 22] 3,
 qmv nb 34 2 3,
 qbo nb 35 .gtr 3 33 (qt 34) 3 4,
 qsg nb 30 35 4]) (
    .cond (qt 30) (
     .seq (
     .ops [sop nb 6 (.assign (.const (.slice none 0 0))) 22,
 sop nb 7 (.assign (qi 0)) 3,
 sop nb 8 (.assign (qi 8)) 29]) (
     .ret)) (
     .seq (
     .ops [qmv nb 37 1 22,
 qln nb 38 #[qt 37] #[22] 3,
 qbo nb 39 .eql 3 38 (qi 1) 3 4,
 qsg nb 36 39 4]) (
     .cond (qt 36) (
      .seq (
      .ops [sop nb 6 (.assign (.const (.slice none 0 0))) 22,
 sop nb 7 (.assign (qi 0)) 3,
 sop nb 8 (.assign (qi 0)) 29]) (
      .ret)) (
      .skip)))))))))) (
 .seq (
 .ops [qmv nb 40 2 3,
 qld nb 41 115 9,
 qmv nb 42 1 22,
 qcl nb 43 83 #[qt 41, qt 42] #[115, 22] 3,
 qbo nb 44 .sub 3 40 (qt 43) 3 3,
 qsg nb 10 44 3]) (
 .seq (
 .block 1 (
  .loop (
   .seq (
   .seq (
   .ops [qmv nb 45 6 22,
 sop nb 46 (.binOp .eql 22 (qt 45) (.const (.slice none 0 0)) 22) 4]) (
   .cond (qt 46) (
    .skip) (
    .exit 1))) (
   .seq (
   .block 2 (
    .seq (
    .ops [sop nb 49 (.fieldAddr 115 (qt 9) 0) 0,
 sop nb 50 (.fieldAddr 25 (qt 49) 3) 0,
 qld nb 51 3 50,
 qsg nb 11 51 3]) (
    .block 3 (
     .loop (
      .seq (
      .seq (
      .ops [qmv nb 52 11 3,
 qmv nb 53 10 3,
 qbo nb 54 .add 3 53 (qi 5) 3 3,
 qbo nb 55 .leq 3 52 (qt 54) 3 4]) (
      .cond (qt 55) (
       .skip) (
       .exit 3))) (
      .seq (
      .block 4 (
       .seq (
       .ops [qld nb 59 115 9,
 qmv nb 60 1 22,
 qmv nb 61 11 3,
 qmv nb 62 11 3,
 qmv nb 63 7 3,
 qbo nb 64 .add 3 62 (qt 63) 3 3,
 sop nb 65 (.build 123 #[(0, qt 61), (1, qt 64)]) 123,
 qmv nb 66 10 3,
 qcl nb 67 84 #[qt 59, qt 60, qt 65, qt 66] #[115, 22, 123, 3] 51,
 qmv nb 58 67 51,
 qex nb 68 58 0 22,
 qex nb 69 58 1 4,
 qsg nb 12 68 22,
 qsg nb 13 69 4]) (
       .seq (
       .ops [qmv nb 70 13 4,
 qmv nb 71 70 4,
 gop nb 72 (.move (qt 6)) 22 71 true,
 gop nb 73 (.binOp .eql 22 (qt 72) (.const (.slice none 0 0)) 22) 4 71 true,
 gop nb 74 (.move (qt 73)) 4 71 true,
 gop nb 75 (.move (qt 12)) 22 74 false,
 gop nb 76 (.move (qt 6)) 22 74 false,
 gop nb 77 (.call { callee := .value (.func 85), args := #[qt 75, qt 76], argTypes := #[22, 22] }) 3 74 false,
 gop nb 78 (.binOp .lss 3 (qt 77) (qi 0) 3) 4 74 false,
 gop nb 79 (.pick (qt 74) (.const (.bool true)) (qt 78)) 4 71 true,
 sop nb 80 (.pick (qt 71) (qt 79) (.const (.bool false))) 4]) (
       .cond (qt 80) (
        .ops [qmv nb 81 12 22,
 qsg nb 6 81 22]) (
        .skip))))) (
      .ops [qmv nb 56 11 3,
 qbo nb 57 .add 3 56 (qi 1) 3 3,
 qsg nb 11 57 3]))))))) (
   .ops [qmv nb 47 7 3,
 qbo nb 48 .add 3 47 (qi 1) 3 3,
 qsg nb 7 48 3]))))) (
 .seq (
 .ops [qmv nb 82 6 22,
 qmv nb 83 7 3,
 qbo nb 84 .sub 3 83 (qi 1) 3 3,
 qsg nb 6 82 22,
 qsg nb 7 84 3,
 sop nb 8 (.assign (qi 0)) 29]) (
 .ret))))))
@[go_sem] theorem rs30 : Go.Proofs.Try.f30.results.toList = [.tmp 6, .tmp 7, .tmp 8] := by kernel_rfl
theorem k30 (nb : Nat) : sk nb Go.Proofs.Try.f30.ntmps (Go.Proofs.Try.f30.body.getD .skip) = some (c30 nb) := by kernel_rfl
theorem w30 {a : List Arg} {r : RV} (h : W Q (c30 0) [] ⟨ρ0 (a.map fun a => a.m.lv), h0⟩ (retG Q Go.Proofs.Try.f30.results.toList (retF r))) (l : Nat.ble a.length Go.Proofs.Try.f30.ntmps = true := by kernel_rfl) : Fn Q 30 a r := fn_intro Go.Proofs.Try.func30 rfl (by kernel_rfl) mix (k30 0) (Nat.le_of_ble_eq_true l) h
noncomputable def c33 (nb : Nat) : SC :=
 .seq (
 .ops [sop nb 3 (.box 25 (qt 0)) 0,
 sop nb 4 (.box 22 (qt 1)) 0,
 sop nb 5 (.box 3 (qt 2)) 0,
 sop nb 6 (.assign (.const (.slice none 0 0))) 22,
 sop nb 7 (.assign (qi 0)) 29]) (
 .seq (
 .ops [qld nb 14 25 3,
 qld nb 15 22 4,
 sop nb 16 (.buildSlice 56 1 #[(0, qt 15)]) 56,
 qcl nb 17 73 #[qt 14, qt 16] #[25, 56] 116,
 qmv nb 13 17 116,
 qex nb 18 13 0 115,
 qex nb 19 13 1 29,
 sop nb 8 (.alloc 115) 0,
 nop (.store 115 (qt 8) (qt 18)) 0,
 qsg nb 9 19 29]) (
 .seq (
 .block 0 (
  .seq (
  .ops [qmv nb 21 9 29,
 qbo nb 22 .neq 29 21 (qi 0) 29 4,
 qsg nb 20 22 4]) (
  .cond (qt 20) (
   .seq (
   .ops [qmv nb 23 9 29,
 sop nb 6 (.assign (.const (.slice none 0 0))) 22,
 qsg nb 7 23 29]) (
   .ret)) (
   .seq (
   .ops [qld nb 25 3 5,
 sop nb 26 (.buildSlice 22 1 #[(0, qt 25)]) 22,
 qcl nb 27 82 #[qt 26] #[22] 4,
 sop nb 28 (.unOp .not 4 (qt 27)) 4,
 qsg nb 24 28 4]) (
   .cond (qt 24) (
    .seq (
    .ops [sop nb 6 (.assign (.const (.slice none 0 0))) 22,
 sop nb 7 (.assign (qi 3)) 29]) (
    .ret)) (
    .skip)))))) (
 .seq (
 .ops [sop nb 29 (.makeFunc (.func 88) #[] #[qt 4, qt 8, qt 5]) 127,
 qsg nb 10 29 127]) (
 .seq (
 .ops [qld nb 31 22 4,
 qln nb 32 #[qt 31] #[22] 3,
 qmv nb 33 10 127,
 qcl nb 34 90 #[qt 32, qt 33] #[3, 127] 51,
 qmv nb 30 34 51,
 qex nb 35 30 0 22,
 qex nb 36 30 1 4,
 qsg nb 11 35 22,
 qsg nb 12 36 4]) (
 .seq (
 .block 1 (
  .seq (
  .ops [qmv nb 38 12 4,
 sop nb 39 (.unOp .not 4 (qt 38)) 4,
 qsg nb 37 39 4]) (
  .cond (qt 37) (
   .seq (
   .ops [sop nb 6 (.assign (.const (.slice none 0 0))) 22,
 sop nb 7 (.assign (qi 9)) 29]) (
   .ret)) (
   .seq (
   .ops [qmv nb 41 11 22,
 sop nb 42 (.binOp .eql 22 (qt 41) (.const (.slice none 0 0)) 22) 4,
 qsg nb 40 42 4]) (
   .cond (qt 40) (
    .seq (
    .ops [sop nb 6 (.assign (.const (.slice none 0 0))) 22,
 sop nb 7 (.assign (qi 6)) 29]) (
    .ret)) (
    .skip)))))) (
 .seq (
 .ops [qmv nb 43 11 22,
 qsg nb 6 43 22,
 sop nb 7 (.assign (qi 0)) 29]) (
 .ret)))))))
@[go_sem] theorem rs33 : Go.Proofs.Try.f33.results.toList = [.tmp 6, .tmp 7] := by kernel_rfl
theorem k33 (nb : Nat) : sk nb Go.Proofs.Try.f33.ntmps (Go.Proofs.Try.f33.body.getD .skip) = some (c33 nb) := by kernel_rfl
theorem w33 {a : List Arg} {r : RV} (h : W Q (c33 0) [] ⟨ρ0 (a.map fun a => a.m.lv), h0⟩ (retG Q Go.Proofs.Try.f33.results.toList (retF r))) (l : Nat.ble a.length Go.Proofs.Try.f33.ntmps = true := by kernel_rfl) : Fn Q 33 a r := fn_intro Go.Proofs.Try.func33 rfl (by kernel_rfl) mix (k33 0) (Nat.le_of_ble_eq_true l) h
noncomputable def c34 (nb : Nat) : SC :=
 .seq (
 .ops [sop nb 4 (.box 25 (qt 0)) 0,
 sop nb 8 (.assign (qi 0)) 3,
 sop nb 9 (.assign (qi 0)) 29]) (
 .seq (
 .ops [qld nb 14 25 4,
 qmv nb 15 1 22,
 sop nb 16 (.buildSlice 56 1 #[(0, qt 15)]) 56,
 qcl nb 17 73 #[qt 14, qt 16] #[25, 56] 116,
 qmv nb 13 17 116,
 qex nb 18 13 0 115,
 qex nb 19 13 1 29,
 sop nb 10 (.alloc 115) 0,
 nop (.store 115 (qt 10) (qt 18)) 0,
 qsg nb 11 19 29]) (
 .seq (
 .block 0 (
  .seq (
  .ops [qmv nb 21 11 29,
 qbo nb 22 .neq 29 21 (qi 0) 29 4,
 qsg nb 20 22 4]) (
  .cond (qt 20) (
   .seq (
   .ops [qmv nb 23 11 29,
 sop nb 8 (.assign (qi 0)) 3,
 qsg nb 9 23 29]) (
   .ret)) (
   .seq (
   .ops [qmv nb 25 1 22,
 qln nb 26 #[qt 25] #[22] 3,
 qbo nb 27 .sub 3 26 (qi 1) 3 3,
 qmv nb 28 2 3,
 sop nb 29 (.buildSlice 22 1 #[(0, qt 28)]) 22,
 qcl nb 30 70 #[qi 0, qt 27, qt 29] #[3, 3, 22] 4,
 sop nb 31 (.unOp .not 4 (qt 30)) 4,
 qsg nb 24 31 4]) (
   .cond (qt 24) (
    .seq (
    .ops [sop nb 8 (.assign (qi 0)) 3,
 sop nb 9 (.assign (qi 7)) 29]) (
    .ret)) (
    .seq (
    .ops [qmv nb 33 3 3,
 sop nb 34 (.buildSlice 22 1 #[(0, qt 33)]) 22,
 qcl nb 35 82 #[qt 34] #[22] 4,
 sop nb 36 (.unOp .not 4 (qt 35)) 4,
 qsg nb 32 36 4]) (
    .cond (qt 32) (
     .seq (
     .ops [sop nb 8 (.assign (qi 0)) 3,
 sop nb 9 (.assign (qi 3)) 29]) (
     .ret)) (
     .skip)))))))) (
 .seq (
 .ops [sop nb 37 (.fieldAddr 115 (qt 10) 0) 0,
 sop nb 38 (.fieldAddr 25 (qt 37) 2) 0,
 qld nb 39 3 38,
 sop nb 40 (.binOp .mul 3 (qi 2) (qt 39) 3) 3,
 qsg nb 12 40 3]) (
 .seq (
 .seq (
 .ops [qmv nb 41 2 3,
 qbo nb 42 .gtr 3 41 (qi 0) 3 4]) (
 .cond (qt 42) (
  .opsD [qmv nb 43 12 3,
 qld nb 44 115 10,
 qmv nb 45 1 22,
 qmv nb 46 2 3,
 sop nb 47 (.slice 22 (qt 45) none (some (qt 46)) none) 22,
 qcl nb 48 74 #[qt 44, qt 47] #[115, 22] 3,
 sop nb 49 (.fieldAddr 115 (qt 10) 0) 0,
 sop nb 50 (.fieldAddr 25 (qt 49) 2) 0,
 qld nb 51 3 50,
 sop nb 52 (.binOp .mul 3 (qi 2) (qt 51) 3) 3,
 qbo nb 53 .sub 3 48 (qt 52) 3 3,
 sop nb 54 (.fieldAddr 115 (qt 10) 0) 0,
 sop nb 55 (.fieldAddr 25 (qt 54) 3) 0,
 qld nb 56 3 55,
 qbo nb 57 .add 3 53 (qt 56) 3 3,
 qbo nb 58 .add 3 43 (qt 57) 3 3,
 qsg nb 12 58 3] [(5, 8), (5, 13)]) (
  .skip))) (
 .seq (
 .seq (
 .ops [qmv nb 59 2 3,
 qmv nb 60 1 22,
 qln nb 61 #[qt 60] #[22] 3,
 qbo nb 62 .sub 3 61 (qi 1) 3 3,
 qbo nb 63 .lss 3 59 (qt 62) 3 4]) (
 .cond (qt 63) (
  .opsD [qmv nb 64 12 3,
 qld nb 65 115 10,
 qmv nb 66 1 22,
 qmv nb 67 2 3,
 qbo nb 68 .add 3 67 (qi 1) 3 3,
 sop nb 69 (.slice 22 (qt 66) (some (qt 68)) none none) 22,
 qcl nb 70 74 #[qt 65, qt 69] #[115, 22] 3,
 sop nb 71 (.fieldAddr 115 (qt 10) 0) 0,
 sop nb 72 (.fieldAddr 25 (qt 71) 2) 0,
 qld nb 73 3 72,
 sop nb 74 (.binOp .mul 3 (qi 2) (qt 73) 3) 3,
 qbo nb 75 .sub 3 70 (qt 74) 3 3,
 sop nb 76 (.fieldAddr 115 (qt 10) 0) 0,
 sop nb 77 (.fieldAddr 25 (qt 76) 3) 0,
 qld nb 78 3 77,
 qbo nb 79 .add 3 75 (qt 78) 3 3,
 qbo nb 80 .add 3 64 (qt 79) 3 3,
 qsg nb 12 80 3] [(6, 9), (6, 14)]) (
  .skip))) (
 .seq (
 .seq (
 .ops [qmv nb 81 12 3,
 qmv nb 82 3 3,
 qbo nb 83 .geq 3 81 (qt 82) 3 4]) (
 .cond (qt 83) (
  .seq (
  .ops [sop nb 8 (.assign (qi 0)) 3,
 sop nb 9 (.assign (qi 8)) 29]) (
  .ret)) (
  .skip))) (
 .seq (
 .ops [qmv nb 84 3 3,
 qmv nb 85 12 3,
 qbo nb 86 .sub 3 84 (qt 85) 3 3,
 sop nb 87 (.call { callee := .builtin .min, args := #[qi 30, qt 86], argTypes := #[3, 3] }) 3,
 qsg nb 8 87 3,
 sop nb 9 (.assign (qi 0)) 29]) (
 .ret))))))))
@[go_sem] theorem rs34 : Go.Proofs.Try.f34.results.toList = [.tmp 8, .tmp 9] := by kernel_rfl
theorem k34 (nb : Nat) : sk nb Go.Proofs.Try.f34.ntmps (Go.Proofs.Try.f34.body.getD .skip) = some (c34 nb) := by kernel_rfl
theorem w34 {a : List Arg} {r : RV} (h : W Q (c34 0) [] ⟨ρ0 (a.map fun a => a.m.lv), h0⟩ (retG Q Go.Proofs.Try.f34.results.toList (retF r))) (l : Nat.ble a.length Go.Proofs.Try.f34.ntmps = true := by kernel_rfl) : Fn Q 34 a r := fn_intro Go.Proofs.Try.func34 rfl (by kernel_rfl) mix (k34 0) (Nat.le_of_ble_eq_true l) h
noncomputable def c39 (nb : Nat) : SC :=
 .seq (
 .ops [sop nb 3 (.box 25 (qt 0)) 0,
 sop nb 5 (.box 3 (qt 2)) 0,
 sop nb 6 (.alloc 22) 0,
 sop nb 7 (.alloc 3) 0,
 sop nb 8 (.assign (qi 0)) 29]) (
 .seq (
 .ops [qld nb 14 25 3,
 qcl nb 15 19 #[qt 14] #[25] 29,
 qsg nb 8 15 29]) (
 .seq (
 .block 0 (
  .seq (
  .ops [qmv nb 17 8 29,
 qbo nb 18 .neq 29 17 (qi 0) 29 4,
 qsg nb 16 18 4]) (
  .cond (qt 16) (
   .seq (
   .ops [qmv nb 19 8 29,
 nop (.store 22 (qt 6) (.const (.slice none 0 0))) 0,
 nop (.store 3 (qt 7) (qi 0)) 0,
 qsg nb 8 19 29]) (
   .ret)) (
   .seq (
   .ops [qmv nb 21 1 56,
 qln nb 22 #[qt 21] #[56] 3,
 qbo nb 23 .eql 3 22 (qi 0) 3 4,
 qsg nb 20 23 4]) (
   .cond (qt 20) (
    .seq (
    .ops [nop (.store 22 (qt 6) (.const (.slice none 0 0))) 0,
 nop (.store 3 (qt 7) (qi 0)) 0,
 sop nb 8 (.assign (qi 7)) 29]) (
    .ret)) (
    .seq (
    .ops [qmv nb 25 1 56,
 qln nb 26 #[qt 25] #[56] 3,
 qbo nb 27 .gtr 3 26 (qi 5) 3 4,
 qsg nb 24 27 4]) (
    .cond (qt 24) (
     .seq (
     .ops [nop (.store 22 (qt 6) (.const (.slice none 0 0))) 0,
 nop (.store 3 (qt 7) (qi 0)) 0,
 sop nb 8 (.assign (qi 5)) 29]) (
     .ret)) (
     .skip)))))))) (
 .seq (
 .ops [qld nb 29 25 3,
 qmv nb 30 1 56,
 qcl nb 31 73 #[qt 29, qt 30] #[25, 56] 116,
 qmv nb 28 31 116,
 qex nb 32 28 0 115,
 qex nb 33 28 1 29,
 sop nb 9 (.alloc 115) 0,
 nop (.store 115 (qt 9) (qt 32)) 0,
 qsg nb 8 33 29]) (
 .seq (
 .block 1 (
  .seq (
  .ops [qmv nb 35 8 29,
 qbo nb 36 .neq 29 35 (qi 0) 29 4,
 qsg nb 34 36 4]) (
  .cond (qt 34) (
   .seq (
   .ops [qmv nb 37 8 29,
 nop (.store 22 (qt 6) (.const (.slice none 0 0))) 0,
 nop (.store 3 (qt 7) (qi 0)) 0,
 qsg nb 8 37 29]) (
   .ret)) (
   .seq (
   .ops [qld nb 39 3 5,
 sop nb 40 (.buildSlice 22 1 #[(0, qt 39)]) 22,
 qcl nb 41 82 #[qt 40] #[22] 4,
 sop nb 42 (.unOp .not 4 (qt 41)) 4,
 qsg nb 38 42 4]) (
   .cond (qt 38) (
    .seq (
    .ops [nop (.store 22 (qt 6) (.const (.slice none 0 0))) 0,
 nop (.store 3 (qt 7) (qi 0)) 0,
 sop nb 8 (.assign (qi 3)) 29]) (
    .ret)) (
    .seq (
    .ops [qmv nb 44 1 56,
 sop nb 45 (.makeFunc (.func 95) #[] #[qt 9, qt 5]) 127,
 qcl nb 46 94 #[qt 44, qt 45] #[56, 127] 4,
 qsg nb 43 46 4]) (
    .cond (qt 43) (
     .seq (
     .ops [nop (.store 22 (qt 6) (.const (.slice none 0 0))) 0,
 nop (.store 3 (qt 7) (qi 0)) 0,
 sop nb 8 (.assign (qi 8)) 29]) (
     .ret)) (
     .skip)))))))) (
 .seq (
 .ops [qld nb 47 115 9,
 qmv nb 48 1 56,
 qld nb 49 3 5,
 sop nb 50 (.build 132 #[(0, qt 47), (1, qt 48), (2, qt 49)]) 132,
 sop nb 10 (.alloc 132) 0,
 nop (.store 132 (qt 10) (qt 50)) 0]) (
 .seq (
 .seq (
 .ops [sop nb 11 (.assign (qi 1)) 3]) (
 .block 2 (
  .loop (
   .seq (
   .seq (
   .ops [qld nb 51 22 6,
 sop nb 52 (.binOp .eql 22 (qt 51) (.const (.slice none 0 0)) 22) 4]) (
   .cond (qt 52) (
    .skip) (
    .exit 2))) (
   .seq (
   .block 3 (
    .seq (
    .ops [qld nb 55 132 10,
 qmv nb 56 11 3,
 qcl nb 57 96 #[qt 55, qi 0, qt 56] #[132, 3, 3] 133]) (
    .block 4 (
     .rangeF (qt 57) [58, 59] (
      .seq (
      .ops [qsg nb 12 58 22]) (
      .ops [qsg nb 13 59 3])) (
      .block 5 (
       .seq (
       .ops [qld nb 60 22 6,
 sop nb 61 (.binOp .eql 22 (qt 60) (.const (.slice none 0 0)) 22) 4,
 qmv nb 62 61 4,
 gop nb 63 (.move (qt 13)) 3 62 false,
 gop nb 64 (.load 3 (qt 7)) 3 62 false,
 gop nb 65 (.binOp .lss 3 (qt 63) (qt 64) 3) 4 62 false,
 sop nb 66 (.pick (qt 62) (.const (.bool true)) (qt 65)) 4]) (
       .cond (qt 66) (
        .ops [qmv nb 67 12 22,
 qmv nb 68 13 3,
 nop (.store 22 (qt 6) (qt 67)) 0,
 nop (.store 3 (qt 7) (qt 68)) 0]) (
        .skip)))))))) (
   .ops [qmv nb 53 11 3,
 qbo nb 54 .add 3 53 (qi 1) 3 3,
 qsg nb 11 54 3])))))) (
 .seq (
 .opsD [qld nb 69 22 6,
 qld nb 70 3 7,
 nop (.store 22 (qt 6) (qt 69)) 0,
 nop (.store 3 (qt 7) (qt 70)) 0,
 sop nb 8 (.assign (qi 0)) 29] [(1, 2)]) (
 .ret))))))))
@[go_sem] theorem rs39 : Go.Proofs.Try.f39.results.toList = [.cell 6 22, .cell 7 3, .tmp 8] := by kernel_rfl
theorem k39 (nb : Nat) : sk nb Go.Proofs.Try.f39.ntmps (Go.Proofs.Try.f39.body.getD .skip) = some (c39 nb) := by kernel_rfl
theorem w39 {a : List Arg} {r : RV} (h : W Q (c39 0) [] ⟨ρ0 (a.map fun a => a.m.lv), h0⟩ (retG Q Go.Proofs.Try.f39.results.toList (retF r))) (l : Nat.ble a.length Go.Proofs.Try.f39.ntmps = true := by kernel_rfl) : Fn Q 39 a r := fn_intro Go.Proofs.Try.func39 rfl (by kernel_rfl) mix (k39 0) (Nat.le_of_ble_eq_true l) h
noncomputable def c43 (nb : Nat) : SC :=
 .seq (
 .ops [sop nb 3 (.box 25 (qt 0)) 0,
 sop nb 6 (.assign (.const (.slice none 0 0))) 22,
 sop nb 7 (.assign (qi 0)) 29]) (
 .seq (
 .ops [qld nb 11 25 3,
 qcl nb 12 19 #[qt 11] #[25] 29,
 qsg nb 8 12 29]) (
 .seq (
 .block 0 (
  .seq (
  .ops [qmv nb 14 8 29,
 qbo nb 15 .neq 29 14 (qi 0) 29 4,
 qsg nb 13 15 4]) (
  .cond (qt 13) (
   .seq (
   .ops [qmv nb 16 8 29,
 sop nb 6 (.assign (.const (.slice none 0 0))) 22,
 qsg nb 7 16 29]) (
   .ret)) (
   .seq (
   .seq (
   .ops [qmv nb 18 1 56,
 qln nb 19 #[qt 18] #[56] 3,
 qbo nb 20 .gtr 3 19 (qi 5) 3 4,
 qsg nb 17 20 4]) (
   .cond (qt 17) (
    .skip) (
    .ops [qmv nb 21 2 22,
 qln nb 22 #[qt 21] #[22] 3,
 qbo nb 23 .gtr 3 22 (qi 6) 3 4,
 qsg nb 17 23 4]))) (
   .cond (qt 17) (
    .seq (
    .ops [sop nb 6 (.assign (.const (.slice none 0 0))) 22,
 sop nb 7 (.assign (qi 5)) 29]) (
    .ret)) (
    .skip)))))) (
 .seq (
 .ops [qld nb 25 25 3,
 qmv nb 26 1 56,
 qcl nb 27 73 #[qt 25, qt 26] #[25, 56] 116,
 qmv nb 24 27 116,
 qex nb 28 24 0 115,
 qex nb 29 24 1 29,
 sop nb 9 (.alloc 115) 0,
 nop (.store 115 (qt 9) (qt 28)) 0,
 qsg nb 8 29 29]) (
 .seq (
 .block 1 (
  .seq (
  .ops [qmv nb 31 8 29,
 qbo nb 32 .neq 29 31 (qi 0) 29 4,
 qsg nb 30 32 4]) (
  .cond (qt 30) (
   .seq (
   .ops [qmv nb 33 8 29,
 sop nb 6 (.assign (.const (.slice none 0 0))) 22,
 qsg nb 7 33 29]) (
   .ret)) (
   .seq (
   .ops [qmv nb 35 2 22,
 qcl nb 36 82 #[qt 35] #[22] 4,
 sop nb 37 (.unOp .not 4 (qt 36)) 4,
 qsg nb 34 37 4]) (
   .cond (qt 34) (
    .seq (
    .ops [sop nb 6 (.assign (.const (.slice none 0 0))) 22,
 sop nb 7 (.assign (qi 3)) 29]) (
    .ret)) (
    .seq (
    .ops [qmv nb 39 1 56,
 qln nb 40 #[qt 39] #[56] 3,
 qbo nb 41 .eql 3 40 (qi 0) 3 4,
 qsg nb 38 41 4]) (
    .cond (qt 38) (
     .seq (
     .ops [sop nb 6 (.assign (.const (.slice none 0 0))) 22,
 sop nb 7 (.assign (qi 0)) 29]) (
     .ret)) (
     .skip)))))))) (
 .seq (
 .ops [qld nb 42 115 9,
 qmv nb 43 2 22,
 sop nb 44 (.build 137 #[(0, qt 42), (1, qt 43)]) 137,
 sop nb 45 (.box 137 (qt 44)) 135,
 qsg nb 10 45 135]) (
 .seq (
 .ops [qmv nb 46 10 135,
 qmv nb 47 1 56,
 qcl nb 48 98 #[qt 46, qt 47, (.const (.slice none 0 0)), qi 0] #[135, 56, 22, 3] 0]) (
 .seq (
 .seq (
 .ops [qmv nb 49 10 135,
 sop nb 50 (.nilCheck (qt 49)) 0,
 sop nb 51 (.fieldAddr 137 (qt 50) 2) 0,
 qld nb 52 22 51,
 sop nb 53 (.binOp .eql 22 (qt 52) (.const (.slice none 0 0)) 22) 4]) (
 .cond (qt 53) (
  .seq (
  .ops [sop nb 6 (.assign (.const (.slice none 0 0))) 22,
 sop nb 7 (.assign (qi 9)) 29]) (
  .ret)) (
  .skip))) (
 .seq (
 .ops [qmv nb 54 10 135,
 sop nb 55 (.nilCheck (qt 54)) 0,
 sop nb 56 (.fieldAddr 137 (qt 55) 2) 0,
 qld nb 57 22 56,
 qsg nb 6 57 22,
 sop nb 7 (.assign (qi 0)) 29]) (
 .ret)))))))))
@[go_sem] theorem rs43 : Go.Proofs.Try.f43.results.toList = [.tmp 6, .tmp 7] := by kernel_rfl
theorem k43 (nb : Nat) : sk nb Go.Proofs.Try.f43.ntmps (Go.Proofs.Try.f43.body.getD .skip) = some (c43 nb) := by kernel_rfl
theorem w43 {a : List Arg} {r : RV} (h : W Q (c43 0) [] ⟨ρ0 (a.map fun a => a.m.lv), h0⟩ (retG Q Go.Proofs.Try.f43.results.toList (retF r))) (l : Nat.ble a.length Go.Proofs.Try.f43.ntmps = true := by kernel_rfl) : Fn Q 43 a r := fn_intro Go.Proofs.Try.func43 rfl (by kernel_rfl) mix (k43 0) (Nat.le_of_ble_eq_true l) h
noncomputable def c45 (nb : Nat) : SC :=
 .seq (
 .ops [sop nb 4 (.box 25 (qt 0)) 0,
 sop nb 7 (.box 3 (qt 3)) 0,
 sop nb 8 (.assign (.const (.slice none 0 0))) 22,
 sop nb 9 (.assign (qi 0)) 29]) (
 .seq (
 .ops [qld nb 16 25 4,
 qmv nb 17 1 22,
 qmv nb 18 2 22,
 qcl nb 19 21 #[qt 16, qt 17, qt 18] #[25, 22, 22] 33,
 qmv nb 15 19 33,
 qex nb 20 15 0 22,
 qex nb 21 15 1 3,
 qex nb 22 15 2 29,
 sop nb 10 (.alloc 22) 0,
 nop (.store 22 (qt 10) (qt 20)) 0,
 qsg nb 11 21 3,
 qsg nb 12 22 29]) (
 .seq (
 .block 0 (
  .seq (
  .ops [qmv nb 24 12 29,
 qbo nb 25 .neq 29 24 (qi 0) 29 4,
 qsg nb 23 25 4]) (
  .cond (qt 23) (
   .seq (
   .ops [qmv nb 26 12 29,
 sop nb 8 (.assign (.const (.slice none 0 0))) 22,
 qsg nb 9 26 29]) (
   .ret)) (
   .seq (
   .ops [qld nb 28 3 7,
 sop nb 29 (.buildSlice 22 1 #[(0, qt 28)]) 22,
 qcl nb 30 70 #[qi 0, qi 400, qt 29] #[3, 3, 22] 4,
 sop nb 31 (.unOp .not 4 (qt 30)) 4,
 qsg nb 27 31 4]) (
   .cond (qt 27) (
    .seq (
    .ops [sop nb 8 (.assign (.const (.slice none 0 0))) 22,
 sop nb 9 (.assign (qi 3)) 29]) (
    .ret)) (
    .skip)))))) (
 .seq (
 .ops [qld nb 33 22 10,
 qln nb 34 #[qt 33] #[22] 3,
 sop nb 35 (.makeFunc (.func 101) #[] #[qt 10, qt 7]) 127,
 qcl nb 36 90 #[qt 34, qt 35] #[3, 127] 51,
 qmv nb 32 36 51,
 qex nb 37 32 0 22,
 qex nb 38 32 1 4,
 qsg nb 13 37 22,
 qsg nb 14 38 4]) (
 .seq (
 .seq (
 .ops [qmv nb 39 13 22,
 sop nb 40 (.binOp .eql 22 (qt 39) (.const (.slice none 0 0)) 22) 4]) (
 .cond (qt 40) (
  .seq (
  .ops [sop nb 8 (.assign (.const (.slice none 0 0))) 22,
 sop nb 9 (.assign (qi 6)) 29]) (
  .ret)) (
  .skip))) (
 .seq (
 .ops [qmv nb 41 13 22,
 qsg nb 8 41 22,
 sop nb 9 (.assign (qi 0)) 29]) (
 .ret))))))
@[go_sem] theorem rs45 : Go.Proofs.Try.f45.results.toList = [.tmp 8, .tmp 9] := by kernel_rfl
theorem k45 (nb : Nat) : sk nb Go.Proofs.Try.f45.ntmps (Go.Proofs.Try.f45.body.getD .skip) = some (c45 nb) := by kernel_rfl
theorem w45 {a : List Arg} {r : RV} (h : W Q (c45 0) [] ⟨ρ0 (a.map fun a => a.m.lv), h0⟩ (retG Q Go.Proofs.Try.f45.results.toList (retF r))) (l : Nat.ble a.length Go.Proofs.Try.f45.ntmps = true := by kernel_rfl) : Fn Q 45 a r := fn_intro Go.Proofs.Try.func45 rfl (by kernel_rfl) mix (k45 0) (Nat.le_of_ble_eq_true l) h
noncomputable def c47 (nb : Nat) : SC :=
 .seq (
 .ops [sop nb 4 (.box 25 (qt 0)) 0,
 sop nb 7 (.box 71 (qt 3)) 0,
 sop nb 8 (.assign (.const (.slice none 0 0))) 56,
 sop nb 9 (.assign (qi 0)) 29]) (
 .seq (
 .ops [qld nb 21 25 4,
 qcl nb 22 73 #[qt 21, (.const (.slice none 0 0))] #[25, 56] 116,
 qmv nb 20 22 116,
 qex nb 23 20 0 115,
 qex nb 24 20 1 29,
 sop nb 10 (.alloc 115) 0,
 nop (.store 115 (qt 10) (qt 23)) 0,
 qsg nb 9 24 29]) (
 .seq (
 .ops [qmv nb 25 1 22,
 qcl nb 26 102 #[qt 25] #[22] 22,
 qsg nb 11 26 22]) (
 .seq (
 .block 0 (
  .seq (
  .ops [qmv nb 28 9 29,
 qbo nb 29 .neq 29 28 (qi 0) 29 4,
 qsg nb 27 29 4]) (
  .cond (qt 27) (
   .seq (
   .ops [qmv nb 30 9 29,
 sop nb 8 (.assign (.const (.slice none 0 0))) 56,
 qsg nb 9 30 29]) (
   .ret)) (
   .seq (
   .seq (
   .ops [qld nb 32 115 10,
 qmv nb 33 1 22,
 qcl nb 34 103 #[qt 32, qt 33, (qi (-1))] #[115, 22, 3] 4,
 sop nb 35 (.unOp .not 4 (qt 34)) 4,
 qsg nb 31 35 4]) (
   .cond (qt 31) (
    .skip) (
    .ops [qmv nb 36 1 22,
 qmv nb 37 2 22,
 qcl nb 38 75 #[qt 36, qt 37] #[22, 22] 4,
 sop nb 39 (.unOp .not 4 (qt 38)) 4,
 qsg nb 31 39 4]))) (
   .cond (qt 31) (
    .seq (
    .ops [sop nb 8 (.assign (.const (.slice none 0 0))) 56,
 sop nb 9 (.assign (qi 4)) 29]) (
    .ret)) (
    .seq (
    .ops [qmv nb 41 11 22,
 qln nb 42 #[qt 41] #[22] 3,
 qbo nb 43 .gtr 3 42 (qi 2) 3 4,
 qsg nb 40 43 4]) (
    .cond (qt 40) (
     .seq (
     .ops [sop nb 8 (.assign (.const (.slice none 0 0))) 56,
 sop nb 9 (.assign (qi 8)) 29]) (
     .ret)) (
     .seq (
     .ops [sop nb 45 (.fieldAddr 71 (qt 7) 0) 0,
 qld nb 46 3 45,
 sop nb 47 (.fieldAddr 71 (qt 7) 1) 0,
 qld nb 48 3 47,
 sop nb 49 (.buildSlice 22 2 #[(0, qt 46), (1, qt 48)]) 22,
 qcl nb 50 82 #[qt 49] #[22] 4,
 sop nb 51 (.unOp .not 4 (qt 50)) 4,
 qmv nb 52 51 4,
 gop nb 53 (.fieldAddr 71 (qt 7) 0) 0 52 false,
 gop nb 54 (.load 3 (qt 53)) 3 52 false,
 gop nb 55 (.fieldAddr 71 (qt 7) 1) 0 52 false,
 gop nb 56 (.load 3 (qt 55)) 3 52 false,
 gop nb 57 (.binOp .gtr 3 (qt 54) (qt 56) 3) 4 52 false,
 sop nb 58 (.pick (qt 52) (.const (.bool true)) (qt 57)) 4,
 qsg nb 44 58 4]) (
     .cond (qt 44) (
      .seq (
      .ops [sop nb 8 (.assign (.const (.slice none 0 0))) 56,
 sop nb 9 (.assign (qi 3)) 29]) (
      .ret)) (
      .skip)))))))))) (
 .seq (
 .ops [sop nb 12 (.assign (qi 0)) 3]) (
 .seq (
 .seq (
 .ops [qmv nb 59 2 22,
 qln nb 60 #[qt 59] #[22] 3,
 sop nb 61 (.move (qi 0)) 3]) (
 .block 1 (
  .loop (
   .seq (
   .ops [qbo nb 62 .lss 3 61 (qt 60) 3 0]) (
   .seq (
   .cond (qt 62) (
    .skip) (
    .exit 1)) (
   .seq (
   .block 2 (
    .seq (
    .ops [qix nb 63 22 59 61 0,
 qld nb 64 3 63,
 qsg nb 14 64 3]) (
    .ops [qmv nb 65 12 3,
 qmv nb 66 14 3,
 qbo nb 67 .add 3 65 (qt 66) 3 3,
 qsg nb 12 67 3]))) (
   .ops [qbo nb 68 .add 3 61 (qi 1) 3 3,
 qmv nb 61 68 3]))))))) (
 .seq (
 .ops [qld nb 69 115 10,
 qmv nb 70 11 22,
 sop nb 71 (.build 144 #[(0, qt 69), (1, qt 70)]) 144,
 sop nb 72 (.box 144 (qt 71)) 140,
 qsg nb 15 72 140]) (
 .seq (
 .seq (
 .opsD [qmv nb 73 15 140,
 qmv nb 74 1 22,
 qcl nb 75 105 #[qt 74] #[22] 22,
 qmv nb 76 12 3,
 qld nb 77 71 7,
 qcl nb 78 104 #[qt 73, qt 75, qi 0, qt 76, qt 77] #[140, 22, 3, 3, 71] 4,
 sop nb 79 (.unOp .not 4 (qt 78)) 4] [(2, 4)]) (
 .cond (qt 79) (
  .seq (
  .ops [sop nb 8 (.assign (.const (.slice none 0 0))) 56,
 sop nb 9 (.assign (qi 9)) 29]) (
  .ret)) (
  .skip))) (
 .seq (
 .seq (
 .ops [qmv nb 80 11 22,
 qln nb 81 #[qt 80] #[22] 3,
 sop nb 82 (.move (qi 0)) 3]) (
 .block 3 (
  .loop (
   .seq (
   .ops [qbo nb 83 .lss 3 82 (qt 81) 3 0]) (
   .seq (
   .cond (qt 83) (
    .skip) (
    .exit 3)) (
   .seq (
   .block 4 (
    .seq (
    .ops [qmv nb 84 82 3,
 qsg nb 16 84 3]) (
    .seq (
    .ops [sop nb 17 (.assign (.const (.slice none 0 0))) 22]) (
    .seq (
    .seq (
    .ops [qmv nb 85 15 140,
 qmv nb 86 16 3,
 sop nb 87 (.nilCheck (qt 85)) 0,
 sop nb 88 (.fieldAddr 144 (qt 87) 2) 0,
 qix nb 89 142 88 86 0,
 qld nb 90 141 89,
 sop nb 91 (.move (qi 0)) 3]) (
    .block 5 (
     .loop (
      .seq (
      .ops [qbo nb 92 .lss 3 91 (qi 8) 3 0]) (
      .seq (
      .cond (qt 92) (
       .skip) (
       .exit 5)) (
      .seq (
      .block 6 (
       .seq (
       .ops [qmv nb 93 91 3,
 sop nb 94 (.index 141 (qt 90) (qt 91)) 4,
 qsg nb 18 93 3,
 qsg nb 19 94 4]) (
       .seq (
       .ops [qmv nb 95 19 4]) (
       .cond (qt 95) (
        .ops [qmv nb 96 17 22,
 qmv nb 97 18 3,
 sop nb 98 (.buildSlice 22 1 #[(0, qt 97)]) 22,
 sop nb 99 (.call { callee := .builtin .append, args := #[qt 96, qt 98], argTypes := #[22, 22] }) 22,
 qsg nb 17 99 22]) (
        .skip))))) (
      .ops [qbo nb 100 .add 3 91 (qi 1) 3 3,
 qmv nb 91 100 3]))))))) (
    .ops [qmv nb 101 8 56,
 qmv nb 102 17 22,
 sop nb 103 (.buildSlice 56 1 #[(0, qt 102)]) 56,
 sop nb 104 (.call { callee := .builtin .append, args := #[qt 101, qt 103], argTypes := #[56, 56] }) 56,
 qsg nb 8 104 56]))))) (
   .ops [qbo nb 105 .add 3 82 (qi 1) 3 3,
 qmv nb 82 105 3]))))))) (
 .seq (
 .ops [qmv nb 106 8 56,
 qsg nb 8 106 56,
 sop nb 9 (.assign (qi 0)) 29]) (
 .ret))))))))))
@[go_sem] theorem rs47 : Go.Proofs.Try.f47.results.toList = [.tmp 8, .tmp 9] := by kernel_rfl
theorem k47 (nb : Nat) : sk nb Go.Proofs.Try.f47.ntmps (Go.Proofs.Try.f47.body.getD .skip) = some (c47 nb) := by kernel_rfl
theorem w47 {a : List Arg} {r : RV} (h : W Q (c47 0) [] ⟨ρ0 (a.map fun a => a.m.lv), h0⟩ (retG Q Go.Proofs.Try.f47.results.toList (retF r))) (l : Nat.ble a.length Go.Proofs.Try.f47.ntmps = true := by kernel_rfl) : Fn Q 47 a r := fn_intro Go.Proofs.Try.func47 rfl (by kernel_rfl) mix (k47 0) (Nat.le_of_ble_eq_true l) h
noncomputable def c67 (nb : Nat) : SC :=
 .seq (
 .ops [sop nb 4 (.alloc 71) 0]) (
 .seq (
 .ops [qmv nb 5 0 3,
 qmv nb 6 1 3,
 sop nb 7 (.build 71 #[(0, qt 5), (1, qt 6)]) 71,
 nop (.store 71 (qt 4) (qt 7)) 0]) (
 .ret))
@[go_sem] theorem rs67 : Go.Proofs.Try.f67.results.toList = [.cell 4 71] := by kernel_rfl
theorem k67 (nb : Nat) : sk nb Go.Proofs.Try.f67.ntmps (Go.Proofs.Try.f67.body.getD .skip) = some (c67 nb) := by kernel_rfl
theorem w67 {a : List Arg} {r : RV} (h : W Q (c67 0) [] ⟨ρ0 (a.map fun a => a.m.lv), h0⟩ (retG Q Go.Proofs.Try.f67.results.toList (retF r))) (l : Nat.ble a.length Go.Proofs.Try.f67.ntmps = true := by kernel_rfl) : Fn Q 67 a r := fn_intro Go.Proofs.Try.func67 rfl (by kernel_rfl) mix (k67 0) (Nat.le_of_ble_eq_true l) h
noncomputable def c68 (nb : Nat) : SC :=
 .seq (
 .ops [sop nb 0 (.alloc 25) 0]) (
 .seq (
 .ops [sop nb 1 (.buildSlice 22 4 #[(0, qi 10), (1, qi 10), (2, qi 3), (3, qi 8)]) 22,
 sop nb 2 (.build 108 #[(1, qi 1), (2, qi 3)]) 108,
 sop nb 3 (.build 108 #[(0, qi 1), (2, qi 3)]) 108,
 sop nb 4 (.build 108 #[(0, qi 3), (1, qi 1), (2, qi 4)]) 108,
 sop nb 5 (.buildSlice 23 3 #[(0, qt 2), (1, qt 3), (2, qt 4)]) 23,
 sop nb 6 (.build 25 #[(0, qt 1), (1, qt 5), (2, qi 5), (3, qi 2), (4, qi 6)]) 25,
 nop (.store 25 (qt 0) (qt 6)) 0]) (
 .ret))
@[go_sem] theorem rs68 : Go.Proofs.Try.f68.results.toList = [.cell 0 25] := by kernel_rfl
theorem k68 (nb : Nat) : sk nb Go.Proofs.Try.f68.ntmps (Go.Proofs.Try.f68.body.getD .skip) = some (c68 nb) := by kernel_rfl
theorem w68 {a : List Arg} {r : RV} (h : W Q (c68 0) [] ⟨ρ0 (a.map fun a => a.m.lv), h0⟩ (retG Q Go.Proofs.Try.f68.results.toList (retF r))) (l : Nat.ble a.length Go.Proofs.Try.f68.ntmps = true := by kernel_rfl) : Fn Q 68 a r := fn_intro Go.Proofs.Try.func68 rfl (by kernel_rfl) mix (k68 0) (Nat.le_of_ble_eq_true l) h
noncomputable def c69 (nb : Nat) : SC :=
 .seq (
 .ops [sop nb 2 (.box 108 (qt 0)) 0,
 sop nb 3 (.assign (.const (.bool false))) 4]) (
 .seq (
 .ops [sop nb 4 (.fieldAddr 25 (qt 1) 0) 0,
 qld nb 5 22 4,
 qln nb 6 #[qt 5] #[22] 3,
 qbo nb 7 .sub 3 6 (qi 1) 3 3,
 sop nb 8 (.fieldAddr 108 (qt 2) 0) 0,
 qld nb 9 3 8,
 sop nb 10 (.fieldAddr 108 (qt 2) 1) 0,
 qld nb 11 3 10,
 sop nb 12 (.buildSlice 22 2 #[(0, qt 9), (1, qt 11)]) 22,
 qcl nb 13 70 #[qi 0, qt 7, qt 12] #[3, 3, 22] 4,
 sop nb 14 (.unOp .not 4 (qt 13)) 4,
 qmv nb 15 14 4,
 gop nb 16 (.fieldAddr 108 (qt 2) 2) 0 15 false,
 gop nb 17 (.load 3 (qt 16)) 3 15 false,
 gop nb 18 (.buildSlice 22 1 #[(0, qt 17)]) 22 15 false,
 gop nb 19 (.call { callee := .value (.func 70), args := #[(qi (-5)), qi 5, qt 18], argTypes := #[3, 3, 22] }) 4 15 false,
 gop nb 20 (.unOp .not 4 (qt 19)) 4 15 false,
 sop nb 21 (.pick (qt 15) (.const (.bool true)) (qt 20)) 4,
 qsg nb 3 21 4]) (
 .ret))
@[go_sem] theorem rs69 : Go.Proofs.Try.f69.results.toList = [.tmp 3] := by kernel_rfl
theorem en69 : Enters Q 69 := enters_of Go.Proofs.Try.func69 rfl (by kernel_rfl)
theorem k69 (nb : Nat) : sk nb Go.Proofs.Try.f69.ntmps (Go.Proofs.Try.f69.body.getD .skip) = some (c69 nb) := by kernel_rfl
theorem w69 {a : List Arg} {r : RV} (h : W Q (c69 0) [] ⟨ρ0 (a.map fun a => a.m.lv), h0⟩ (retG Q Go.Proofs.Try.f69.results.toList (retF r))) (l : Nat.ble a.length Go.Proofs.Try.f69.ntmps = true := by kernel_rfl) : Fn Q 69 a r := fn_intro Go.Proofs.Try.func69 rfl (by kernel_rfl) mix (k69 0) (Nat.le_of_ble_eq_true l) h
noncomputable def c70 (nb : Nat) : SC :=
 .seq (
 .ops [sop nb 3 (.box 3 (qt 0)) 0,
 sop nb 4 (.box 3 (qt 1)) 0,
 sop nb 6 (.assign (.const (.bool false))) 4]) (
 .seq (
 .ops [qmv nb 7 2 22,
 sop nb 8 (.makeFunc (.func 108) #[] #[qt 3, qt 4]) 91,
 qcl nb 9 107 #[qt 7, qt 8] #[22, 91] 4,
 sop nb 10 (.unOp .not 4 (qt 9)) 4,
 qsg nb 6 10 4]) (
 .ret))
@[go_sem] theorem rs70 : Go.Proofs.Try.f70.results.toList = [.tmp 6] := by kernel_rfl
theorem k70 (nb : Nat) : sk nb Go.Proofs.Try.f70.ntmps (Go.Proofs.Try.f70.body.getD .skip) = some (c70 nb) := by kernel_rfl
theorem w70 {a : List Arg} {r : RV} (h : W Q (c70 0) [] ⟨ρ0 (a.map fun a => a.m.lv), h0⟩ (retG Q Go.Proofs.Try.f70.results.toList (retF r))) (l : Nat.ble a.length Go.Proofs.Try.f70.ntmps = true := by kernel_rfl) : Fn Q 70 a r := fn_intro Go.Proofs.Try.func70 rfl (by kernel_rfl) mix (k70 0) (Nat.le_of_ble_eq_true l) h
noncomputable def c71 (nb : Nat) : SC :=
 .seq (
 .ops [sop nb 4 (.assign (.const (.bool false))) 4]) (
 .seq (
 .ops [qmv nb 5 0 23,
 qmv nb 6 1 110,
 qcl nb 7 109 #[qt 5, qt 6] #[23, 110] 3,
 qbo nb 8 .geq 3 7 (qi 0) 3 4,
 qsg nb 4 8 4]) (
 .ret))
@[go_sem] theorem rs71 : Go.Proofs.Try.f71.results.toList = [.tmp 4] := by kernel_rfl
theorem k71 (nb : Nat) : sk nb Go.Proofs.Try.f71.ntmps (Go.Proofs.Try.f71.body.getD .skip) = some (c71 nb) := by kernel_rfl
theorem w71 {a : List Arg} {r : RV} (h : W Q (c71 0) [] ⟨ρ0 (a.map fun a => a.m.lv), h0⟩ (retG Q Go.Proofs.Try.f71.results.toList (retF r))) (l : Nat.ble a.length Go.Proofs.Try.f71.ntmps = true := by kernel_rfl) : Fn Q 71 a r := fn_intro Go.Proofs.Try.func71 rfl (by kernel_rfl) mix (k71 0) (Nat.le_of_ble_eq_true l) h
noncomputable def c72 (nb : Nat) : SC :=
 .seq (
 .ops [sop nb 1 (.box 25 (qt 0)) 0,
 sop nb 2 (.assign (.const (.map none))) 112]) (
 .seq (
 .ops [sop nb 6 (.makeMap 112 none) 112,
 qsg nb 3 6 112]) (
 .seq (
 .seq (
 .ops [sop nb 7 (.fieldAddr 25 (qt 1) 1) 0,
 qld nb 8 23 7,
 qln nb 9 #[qt 8] #[23] 3,
 sop nb 10 (.move (qi 0)) 3]) (
 .block 0 (
  .loop (
   .seq (
   .ops [qbo nb 11 .lss 3 10 (qt 9) 3 0]) (
   .seq (
   .cond (qt 11) (
    .skip) (
    .exit 0)) (
   .seq (
   .block 1 (
    .seq (
    .ops [qix nb 12 23 8 10 0,
 qld nb 13 108 12,
 sop nb 5 (.alloc 108) 0,
 nop (.store 108 (qt 5) (qt 13)) 0]) (
    .ops [qmv nb 14 3 112,
 sop nb 15 (.fieldAddr 108 (qt 5) 0) 0,
 qld nb 16 3 15,
 sop nb 17 (.fieldAddr 108 (qt 5) 1) 0,
 qld nb 18 3 17,
 sop nb 19 (.build 47 #[(0, qt 16), (1, qt 18)]) 47,
 sop nb 20 (.fieldAddr 108 (qt 5) 2) 0,
 qld nb 21 3 20,
 nop (.mapUpdate 112 (qt 14) (qt 19) (qt 21)) 0]))) (
   .ops [qbo nb 22 .add 3 10 (qi 1) 3 3,
 qmv nb 10 22 3]))))))) (
 .seq (
 .ops [qmv nb 23 3 112,
 qsg nb 2 23 112]) (
 .ret))))
@[go_sem] theorem rs72 : Go.Proofs.Try.f72.results.toList = [.tmp 2] := by kernel_rfl
theorem k72 (nb : Nat) : sk nb Go.Proofs.Try.f72.ntmps (Go.Proofs.Try.f72.body.getD .skip) = some (c72 nb) := by kernel_rfl
theorem w72 {a : List Arg} {r : RV} (h : W Q (c72 0) [] ⟨ρ0 (a.map fun a => a.m.lv), h0⟩ (retG Q Go.Proofs.Try.f72.results.toList (retF r))) (l : Nat.ble a.length Go.Proofs.Try.f72.ntmps = true := by kernel_rfl) : Fn Q 72 a r := fn_intro Go.Proofs.Try.func72 rfl (by kernel_rfl) mix (k72 0) (Nat.le_of_ble_eq_true l) h
noncomputable def c73 (nb : Nat) : SC :=
 .seq (
 .ops [sop nb 2 (.box 25 (qt 0)) 0,
 sop nb 4 (.alloc 115) 0,
 sop nb 5 (.assign (qi 0)) 29]) (
 .seq (
 .seq (
 .ops [qld nb 7 25 2,
 qcl nb 8 19 #[qt 7] #[25] 29,
 qsg nb 6 8 29]) (
 .seq (
 .ops [qmv nb 9 6 29,
 qbo nb 10 .neq 29 9 (qi 0) 29 4]) (
 .cond (qt 10) (
  .seq (
  .ops [qld nb 11 115 4,
 qmv nb 12 6 29,
 nop (.store 115 (qt 4) (qt 11)) 0,
 qsg nb 5 12 29]) (
  .ret)) (
  .skip)))) (
 .seq (
 .opsD [qld nb 13 25 2,
 qld nb 14 25 2,
 qcl nb 15 72 #[qt 14] #[25] 112,
 sop nb 16 (.build 115 #[(0, qt 13), (1, qt 15)]) 115,
 nop (.store 115 (qt 4) (qt 16)) 0] [(0, 2)]) (
 .seq (
 .seq (
 .ops [qmv nb 17 1 56,
 sop nb 18 (.makeFunc (.func 110) #[] #[qt 4]) 127,
 qcl nb 19 94 #[qt 17, qt 18] #[56, 127] 4]) (
 .cond (qt 19) (
  .seq (
  .ops [qld nb 20 115 4,
 nop (.store 115 (qt 4) (qt 20)) 0,
 sop nb 5 (.assign (qi 4)) 29]) (
  .ret)) (
  .skip))) (
 .seq (
 .ops [qld nb 21 115 4,
 nop (.store 115 (qt 4) (qt 21)) 0,
 sop nb 5 (.assign (qi 0)) 29]) (
 .ret)))))
@[go_sem] theorem rs73 : Go.Proofs.Try.f73.results.toList = [.cell 4 115, .tmp 5] := by kernel_rfl
theorem k73 (nb : Nat) : sk nb Go.Proofs.Try.f73.ntmps (Go.Proofs.Try.f73.body.getD .skip) = some (c73 nb) := by kernel_rfl
theorem w73 {a : List Arg} {r : RV} (h : W Q (c73 0) [] ⟨ρ0 (a.map fun a => a.m.lv), h0⟩ (retG Q Go.Proofs.Try.f73.results.toList (retF r))) (l : Nat.ble a.length Go.Proofs.Try.f73.ntmps = true := by kernel_rfl) : Fn Q 73 a r := fn_intro Go.Proofs.Try.func73 rfl (by kernel_rfl) mix (k73 0) (Nat.le_of_ble_eq_true l) h
noncomputable def c74 (nb : Nat) : SC :=
 .seq (
 .ops [sop nb 2 (.box 115 (qt 0)) 0,
 sop nb 4 (.assign (qi 0)) 3]) (
 .seq (
 .ops [qld nb 8 115 2,
 qmv nb 9 1 22,
 qcl nb 10 83 #[qt 8, qt 9] #[115, 22] 3,
 qsg nb 5 10 3]) (
 .seq (
 .seq (
 .ops [qld nb 11 115 2,
 qmv nb 12 1 22,
 qcl nb 13 76 #[qt 11, qt 12] #[115, 22] 22,
 qln nb 14 #[qt 13] #[22] 3,
 sop nb 15 (.move (qi 0)) 3]) (
 .block 0 (
  .loop (
   .seq (
   .ops [qbo nb 16 .lss 3 15 (qt 14) 3 0]) (
   .seq (
   .cond (qt 16) (
    .skip) (
    .exit 0)) (
   .seq (
   .block 1 (
    .seq (
    .ops [qix nb 17 22 13 15 0,
 qld nb 18 3 17,
 qsg nb 7 18 3]) (
    .ops [qmv nb 19 5 3,
 sop nb 20 (.fieldAddr 115 (qt 2) 0) 0,
 sop nb 21 (.fieldAddr 25 (qt 20) 3) 0,
 qld nb 22 3 21,
 qmv nb 23 7 3,
 qbo nb 24 .sub 3 22 (qt 23) 3 3,
 sop nb 25 (.call { callee := .builtin .max, args := #[qi 0, qt 24], argTypes := #[3, 3] }) 3,
 qbo nb 26 .add 3 19 (qt 25) 3 3,
 qsg nb 5 26 3]))) (
   .ops [qbo nb 27 .add 3 15 (qi 1) 3 3,
 qmv nb 15 27 3]))))))) (
 .seq (
 .ops [qmv nb 28 5 3,
 qsg nb 4 28 3]) (
 .ret))))
@[go_sem] theorem rs74 : Go.Proofs.Try.f74.results.toList = [.tmp 4] := by kernel_rfl
theorem k74 (nb : Nat) : sk nb Go.Proofs.Try.f74.ntmps (Go.Proofs.Try.f74.body.getD .skip) = some (c74 nb) := by kernel_rfl
theorem w74 {a : List Arg} {r : RV} (h : W Q (c74 0) [] ⟨ρ0 (a.map fun a => a.m.lv), h0⟩ (retG Q Go.Proofs.Try.f74.results.toList (retF r))) (l : Nat.ble a.length Go.Proofs.Try.f74.ntmps = true := by kernel_rfl) : Fn Q 74 a r := fn_intro Go.Proofs.Try.func74 rfl (by kernel_rfl) mix (k74 0) (Nat.le_of_ble_eq_true l) h
noncomputable def c75 (nb : Nat) : SC :=
 .seq (
 .ops [sop nb 4 (.assign (.const (.bool false))) 4]) (
 .seq (
 .ops [qmv nb 5 1 22,
 qln nb 6 #[qt 5] #[22] 3,
 qmv nb 7 0 22,
 qln nb 8 #[qt 7] #[22] 3,
 qbo nb 9 .sub 3 8 (qi 1) 3 3,
 qbo nb 10 .eql 3 6 (qt 9) 3 4,
 qmv nb 11 10 4,
 gop nb 12 (.move (qt 1)) 22 11 true,
 gop nb 13 (.call { callee := .value (.func 70), args := #[qi 0, qi 400, qt 12], argTypes := #[3, 3, 22] }) 4 11 true,
 sop nb 14 (.pick (qt 11) (qt 13) (.const (.bool false))) 4,
 qsg nb 4 14 4]) (
 .ret))
@[go_sem] theorem rs75 : Go.Proofs.Try.f75.results.toList = [.tmp 4] := by kernel_rfl
theorem k75 (nb : Nat) : sk nb Go.Proofs.Try.f75.ntmps (Go.Proofs.Try.f75.body.getD .skip) = some (c75 nb) := by kernel_rfl
theorem w75 {a : List Arg} {r : RV} (h : W Q (c75 0) [] ⟨ρ0 (a.map fun a => a.m.lv), h0⟩ (retG Q Go.Proofs.Try.f75.results.toList (retF r))) (l : Nat.ble a.length Go.Proofs.Try.f75.ntmps = true := by kernel_rfl) : Fn Q 75 a r := fn_intro Go.Proofs.Try.func75 rfl (by kernel_rfl) mix (k75 0) (Nat.le_of_ble_eq_true l) h
noncomputable def c76 (nb : Nat) : SC :=
 .seq (
 .ops [sop nb 2 (.box 115 (qt 0)) 0,
 sop nb 4 (.assign (.const (.slice none 0 0))) 22]) (
 .seq (
 .seq (
 .ops [qmv nb 6 1 22,
 qln nb 7 #[qt 6] #[22] 3,
 qbo nb 8 .sub 3 7 (qi 1) 3 3,
 sop nb 9 (.move (qi 0)) 3]) (
 .block 0 (
  .loop (
   .seq (
   .ops [qbo nb 10 .lss 3 9 (qt 8) 3 4]) (
   .seq (
   .cond (qt 10) (
    .skip) (
    .exit 0)) (
   .seq (
   .block 1 (
    .seq (
    .ops [qmv nb 11 9 3,
 qsg nb 5 11 3]) (
    .ops [qmv nb 12 4 22,
 sop nb 13 (.fieldAddr 115 (qt 2) 1) 0,
 qld nb 14 112 13,
 qmv nb 15 1 22,
 qmv nb 16 5 3,
 qmv nb 17 5 3,
 qbo nb 18 .add 3 17 (qi 2) 3 3,
 qmv nb 19 5 3,
 qbo nb 20 .add 3 19 (qi 2) 3 3,
 sop nb 21 (.slice 22 (qt 15) (some (qt 16)) (some (qt 18)) (some (qt 20))) 22,
 sop nb 22 (.sliceToArrayPointer 47 (qt 21)) 0,
 qld nb 23 47 22,
 sop nb 24 (.lookup 112 (qt 14) (qt 23) false) 3,
 sop nb 25 (.buildSlice 22 1 #[(0, qt 24)]) 22,
 sop nb 26 (.call { callee := .builtin .append, args := #[qt 12, qt 25], argTypes := #[22, 22] }) 22,
 qsg nb 4 26 22]))) (
   .ops [qbo nb 27 .add 3 9 (qi 1) 3 3,
 qmv nb 9 27 3]))))))) (
 .seq (
 .ops [qmv nb 28 4 22,
 qsg nb 4 28 22]) (
 .ret)))
@[go_sem] theorem rs76 : Go.Proofs.Try.f76.results.toList = [.tmp 4] := by kernel_rfl
theorem k76 (nb : Nat) : sk nb Go.Proofs.Try.f76.ntmps (Go.Proofs.Try.f76.body.getD .skip) = some (c76 nb) := by kernel_rfl
theorem w76 {a : List Arg} {r : RV} (h : W Q (c76 0) [] ⟨ρ0 (a.map fun a => a.m.lv), h0⟩ (retG Q Go.Proofs.Try.f76.results.toList (retF r))) (l : Nat.ble a.length Go.Proofs.Try.f76.ntmps = true := by kernel_rfl) : Fn Q 76 a r := fn_intro Go.Proofs.Try.func76 rfl (by kernel_rfl) mix (k76 0) (Nat.le_of_ble_eq_true l) h
noncomputable def c77 (nb : Nat) : SC :=
 .seq (
 .ops [sop nb 2 (.assign (qi 0)) 3]) (
 .seq (
 .seq (
 .ops [qmv nb 3 0 22,
 qln nb 4 #[qt 3] #[22] 3,
 qbo nb 5 .eql 3 4 (qi 0) 3 4]) (
 .cond (qt 5) (
  .seq (
  .ops [sop nb 2 (.assign (qi 0)) 3]) (
  .ret)) (
  .skip))) (
 .seq (
 .ops [qmv nb 6 0 22,
 qcl nb 7 111 #[qt 6] #[22] 3,
 qmv nb 8 0 22,
 qcl nb 9 112 #[qt 8] #[22] 3,
 qbo nb 10 .sub 3 7 (qt 9) 3 3,
 qsg nb 2 10 3]) (
 .ret)))
@[go_sem] theorem rs77 : Go.Proofs.Try.f77.results.toList = [.tmp 2] := by kernel_rfl
theorem k77 (nb : Nat) : sk nb Go.Proofs.Try.f77.ntmps (Go.Proofs.Try.f77.body.getD .skip) = some (c77 nb) := by kernel_rfl
theorem w77 {a : List Arg} {r : RV} (h : W Q (c77 0) [] ⟨ρ0 (a.map fun a => a.m.lv), h0⟩ (retG Q Go.Proofs.Try.f77.results.toList (retF r))) (l : Nat.ble a.length Go.Proofs.Try.f77.ntmps = true := by kernel_rfl) : Fn Q 77 a r := fn_intro Go.Proofs.Try.func77 rfl (by kernel_rfl) mix (k77 0) (Nat.le_of_ble_eq_true l) h
noncomputable def c82 (nb : Nat) : SC :=
 .seq (
 .ops [sop nb 2 (.assign (.const (.bool false))) 4]) (
 .seq (
 .ops [qmv nb 3 0 22,
 qcl nb 4 70 #[qi 1, qi 400, qt 3] #[3, 3, 22] 4,
 qsg nb 2 4 4]) (
 .ret))
@[go_sem] theorem rs82 : Go.Proofs.Try.f82.results.toList = [.tmp 2] := by kernel_rfl
theorem k82 (nb : Nat) : sk nb Go.Proofs.Try.f82.ntmps (Go.Proofs.Try.f82.body.getD .skip) = some (c82 nb) := by kernel_rfl
theorem w82 {a : List Arg} {r : RV} (h : W Q (c82 0) [] ⟨ρ0 (a.map fun a => a.m.lv), h0⟩ (retG Q Go.Proofs.Try.f82.results.toList (retF r))) (l : Nat.ble a.length Go.Proofs.Try.f82.ntmps = true := by kernel_rfl) : Fn Q 82 a r := fn_intro Go.Proofs.Try.func82 rfl (by kernel_rfl) mix (k82 0) (Nat.le_of_ble_eq_true l) h
noncomputable def c83 (nb : Nat) : SC :=
 .seq (
 .ops [sop nb 2 (.box 115 (qt 0)) 0,
 sop nb 4 (.assign (qi 0)) 3]) (
 .seq (
 .ops [sop nb 8 (.fieldAddr 115 (qt 2) 0) 0,
 sop nb 9 (.fieldAddr 25 (qt 8) 2) 0,
 qld nb 10 3 9,
 sop nb 11 (.binOp .mul 3 (qi 2) (qt 10) 3) 3,
 qsg nb 5 11 3]) (
 .seq (
 .seq (
 .ops [qmv nb 12 1 22,
 qln nb 13 #[qt 12] #[22] 3,
 sop nb 14 (.move (qi 0)) 3]) (
 .block 0 (
  .loop (
   .seq (
   .ops [qbo nb 15 .lss 3 14 (qt 13) 3 0]) (
   .seq (
   .cond (qt 15) (
    .skip) (
    .exit 0)) (
   .seq (
   .block 1 (
    .seq (
    .ops [qix nb 16 22 12 14 0,
 qld nb 17 3 16,
 qsg nb 7 17 3]) (
    .ops [qmv nb 18 5 3,
 sop nb 19 (.fieldAddr 115 (qt 2) 0) 0,
 sop nb 20 (.fieldAddr 25 (qt 19) 0) 0,
 qld nb 21 22 20,
 qmv nb 22 7 3,
 qix nb 23 22 21 22 0,
 qld nb 24 3 23,
 qbo nb 25 .add 3 18 (qt 24) 3 3,
 qsg nb 5 25 3]))) (
   .ops [qbo nb 26 .add 3 14 (qi 1) 3 3,
 qmv nb 14 26 3]))))))) (
 .seq (
 .ops [qmv nb 27 5 3,
 qsg nb 4 27 3]) (
 .ret))))
@[go_sem] theorem rs83 : Go.Proofs.Try.f83.results.toList = [.tmp 4] := by kernel_rfl
theorem k83 (nb : Nat) : sk nb Go.Proofs.Try.f83.ntmps (Go.Proofs.Try.f83.body.getD .skip) = some (c83 nb) := by kernel_rfl
theorem w83 {a : List Arg} {r : RV} (h : W Q (c83 0) [] ⟨ρ0 (a.map fun a => a.m.lv), h0⟩ (retG Q Go.Proofs.Try.f83.results.toList (retF r))) (l : Nat.ble a.length Go.Proofs.Try.f83.ntmps = true := by kernel_rfl) : Fn Q 83 a r := fn_intro Go.Proofs.Try.func83 rfl (by kernel_rfl) mix (k83 0) (Nat.le_of_ble_eq_true l) h
noncomputable def c84 (nb : Nat) : SC :=
 .seq (
 .ops [sop nb 4 (.box 115 (qt 0)) 0,
 sop nb 6 (.box 123 (qt 2)) 0,
 sop nb 8 (.assign (.const (.slice none 0 0))) 22,
 sop nb 9 (.assign (.const (.bool false))) 4]) (
 .seq (
 .ops [qld nb 18 115 4,
 qmv nb 19 1 22,
 qld nb 20 123 6,
 qcl nb 21 114 #[qt 18, qt 19, qt 20] #[115, 22, 123] 149,
 qmv nb 17 21 149,
 qex nb 22 17 0 22,
 qex nb 23 17 1 22,
 qex nb 24 17 2 3,
 qex nb 25 17 3 3,
 qex nb 26 17 4 4,
 qsg nb 10 22 22,
 qsg nb 11 23 22,
 qsg nb 12 24 3,
 qsg nb 13 25 3,
 qsg nb 14 26 4]) (
 .seq (
 .seq (
 .ops [qmv nb 27 14 4,
 sop nb 28 (.unOp .not 4 (qt 27)) 4,
 qmv nb 29 28 4,
 gop nb 30 (.move (qt 3)) 3 29 false,
 gop nb 31 (.move (qt 12)) 3 29 false,
 gop nb 32 (.binOp .lss 3 (qt 30) (qt 31) 3) 4 29 false,
 sop nb 33 (.pick (qt 29) (.const (.bool true)) (qt 32)) 4,
 qmv nb 34 33 4,
 gop nb 35 (.move (qt 3)) 3 34 false,
 gop nb 36 (.move (qt 13)) 3 34 false,
 gop nb 37 (.binOp .gtr 3 (qt 35) (qt 36) 3) 4 34 false,
 sop nb 38 (.pick (qt 34) (.const (.bool true)) (qt 37)) 4]) (
 .cond (qt 38) (
  .seq (
  .ops [sop nb 8 (.assign (.const (.slice none 0 0))) 22,
 sop nb 9 (.assign (.const (.bool false))) 4]) (
  .ret)) (
  .skip))) (
 .seq (
 .seq (
 .ops [qmv nb 39 10 22,
 qln nb 40 #[qt 39] #[22] 3,
 qbo nb 41 .sub 3 40 (qi 1) 3 3,
 qsg nb 15 41 3]) (
 .block 0 (
  .loop (
   .seq (
   .seq (
   .ops [qmv nb 42 15 3,
 qbo nb 43 .geq 3 42 (qi 0) 3 4]) (
   .cond (qt 43) (
    .skip) (
    .exit 0))) (
   .seq (
   .block 1 (
    .seq (
    .ops [qmv nb 46 11 22,
 qmv nb 47 15 3,
 qix nb 48 22 46 47 0,
 qld nb 49 3 48,
 qmv nb 50 10 22,
 qmv nb 51 15 3,
 qix nb 52 22 50 51 0,
 qld nb 53 3 52,
 qbo nb 54 .sub 3 49 (qt 53) 3 3,
 qmv nb 55 3 3,
 qmv nb 56 12 3,
 qbo nb 57 .sub 3 55 (qt 56) 3 3,
 sop nb 58 (.call { callee := .builtin .min, args := #[qt 54, qt 57], argTypes := #[3, 3] }) 3,
 qsg nb 16 58 3]) (
    .seq (
    .ops [qmv nb 59 10 22,
 qmv nb 60 15 3,
 qix nb 61 22 59 60 0,
 qld nb 62 3 61,
 qmv nb 63 16 3,
 qbo nb 64 .add 3 62 (qt 63) 3 3,
 qix nb 65 22 59 60 0,
 nop (.store 3 (qt 65) (qt 64)) 0]) (
    .ops [qmv nb 66 12 3,
 qmv nb 67 16 3,
 qbo nb 68 .add 3 66 (qt 67) 3 3,
 qsg nb 12 68 3])))) (
   .ops [qmv nb 44 15 3,
 qbo nb 45 .sub 3 44 (qi 1) 3 3,
 qsg nb 15 45 3])))))) (
 .seq (
 .ops [qmv nb 69 10 22,
 qsg nb 8 69 22,
 sop nb 9 (.assign (.const (.bool true))) 4]) (
 .ret)))))
@[go_sem] theorem rs84 : Go.Proofs.Try.f84.results.toList = [.tmp 8, .tmp 9] := by kernel_rfl
theorem k84 (nb : Nat) : sk nb Go.Proofs.Try.f84.ntmps (Go.Proofs.Try.f84.body.getD .skip) = some (c84 nb) := by kernel_rfl
theorem w84 {a : List Arg} {r : RV} (h : W Q (c84 0) [] ⟨ρ0 (a.map fun a => a.m.lv), h0⟩ (retG Q Go.Proofs.Try.f84.results.toList (retF r))) (l : Nat.ble a.length Go.Proofs.Try.f84.ntmps = true := by kernel_rfl) : Fn Q 84 a r := fn_intro Go.Proofs.Try.func84 rfl (by kernel_rfl) mix (k84 0) (Nat.le_of_ble_eq_true l) h
noncomputable def c85 (nb : Nat) : SC :=
 .seq (
 .ops [sop nb 4 (.assign (qi 0)) 3]) (
 .seq (
 .seq (
 .ops [qmv nb 9 0 22,
 qln nb 10 #[qt 9] #[22] 3,
 sop nb 11 (.move (qi 0)) 3]) (
 .block 0 (
  .loop (
   .seq (
   .ops [qbo nb 12 .lss 3 11 (qt 10) 3 0]) (
   .seq (
   .cond (qt 12) (
    .skip) (
    .exit 0)) (
   .seq (
   .block 1 (
    .seq (
    .ops [qmv nb 13 11 3,
 qix nb 14 22 9 11 0,
 qld nb 15 3 14,
 qsg nb 5 13 3,
 qsg nb 6 15 3]) (
    .seq (
    .seq (
    .ops [qmv nb 16 5 3,
 qmv nb 17 1 22,
 qln nb 18 #[qt 17] #[22] 3,
 qbo nb 19 .geq 3 16 (qt 18) 3 4]) (
    .cond (qt 19) (
     .seq (
     .ops [sop nb 4 (.assign (qi 1)) 3]) (
     .ret)) (
     .skip))) (
    .seq (
    .ops [qmv nb 20 1 22,
 qmv nb 21 5 3,
 qix nb 22 22 20 21 0,
 qld nb 23 3 22,
 qsg nb 7 23 3]) (
    .seq (
    .ops [qmv nb 24 6 3,
 qmv nb 25 7 3,
 qcl nb 26 115 #[qt 24, qt 25] #[3, 3] 3,
 qsg nb 8 26 3]) (
    .seq (
    .ops [qmv nb 27 8 3,
 qbo nb 28 .neq 3 27 (qi 0) 3 4]) (
    .cond (qt 28) (
     .seq (
     .ops [qmv nb 29 8 3,
 qsg nb 4 29 3]) (
     .ret)) (
     .skip)))))))) (
   .ops [qbo nb 30 .add 3 11 (qi 1) 3 3,
 qmv nb 11 30 3]))))))) (
 .seq (
 .seq (
 .ops [qmv nb 31 0 22,
 qln nb 32 #[qt 31] #[22] 3,
 qmv nb 33 1 22,
 qln nb 34 #[qt 33] #[22] 3,
 qbo nb 35 .lss 3 32 (qt 34) 3 4]) (
 .cond (qt 35) (
  .seq (
  .ops [sop nb 4 (.assign (qi (-1))) 3]) (
  .ret)) (
  .skip))) (
 .seq (
 .ops [sop nb 4 (.assign (qi 0)) 3]) (
 .ret))))
@[go_sem] theorem rs85 : Go.Proofs.Try.f85.results.toList = [.tmp 4] := by kernel_rfl
theorem k85 (nb : Nat) : sk nb Go.Proofs.Try.f85.ntmps (Go.Proofs.Try.f85.body.getD .skip) = some (c85 nb) := by kernel_rfl
theorem w85 {a : List Arg} {r : RV} (h : W Q (c85 0) [] ⟨ρ0 (a.map fun a => a.m.lv), h0⟩ (retG Q Go.Proofs.Try.f85.results.toList (retF r))) (l : Nat.ble a.length Go.Proofs.Try.f85.ntmps = true := by kernel_rfl) : Fn Q 85 a r := fn_intro Go.Proofs.Try.func85 rfl (by kernel_rfl) mix (k85 0) (Nat.le_of_ble_eq_true l) h
noncomputable def c88 (nb : Nat) : SC :=
 .seq (
 .ops [sop nb 5 (.assign (.const (.bool false))) 4]) (
 .seq (
 .ops [qld nb 7 22 1,
 qmv nb 8 0 22,
 qcl nb 9 89 #[qt 7, qt 8] #[22, 22] 22,
 qsg nb 6 9 22]) (
 .seq (
 .opsD [qmv nb 10 6 22,
 sop nb 11 (.binOp .neq 22 (qt 10) (.const (.slice none 0 0)) 22) 4,
 qmv nb 12 11 4,
 gop nb 13 (.load 115 (qt 2)) 115 12 true,
 gop nb 14 (.move (qt 6)) 22 12 true,
 gop nb 15 (.call { callee := .value (.func 74), args := #[qt 13, qt 14], argTypes := #[115, 22] }) 3 12 true,
 gop nb 16 (.load 3 (qt 3)) 3 12 true,
 gop nb 17 (.binOp .leq 3 (qt 15) (qt 16) 3) 4 12 true,
 sop nb 18 (.pick (qt 12) (qt 17) (.const (.bool false))) 4,
 qsg nb 5 18 4] [(5, 6)]) (
 .ret)))
@[go_sem] theorem rs88 : Go.Proofs.Try.f88.results.toList = [.tmp 5] := by kernel_rfl
theorem k88 (nb : Nat) : sk nb Go.Proofs.Try.f88.ntmps (Go.Proofs.Try.f88.body.getD .skip) = some (c88 nb) := by kernel_rfl
theorem w88 {a : List Arg} {r : RV} (h : W Q (c88 0) [] ⟨ρ0 (a.map fun a => a.m.lv), h0⟩ (retG Q Go.Proofs.Try.f88.results.toList (retF r))) (l : Nat.ble a.length Go.Proofs.Try.f88.ntmps = true := by kernel_rfl) : Fn Q 88 a r := fn_intro Go.Proofs.Try.func88 rfl (by kernel_rfl) mix (k88 0) (Nat.le_of_ble_eq_true l) h
noncomputable def c89 (nb : Nat) : SC :=
 .seq (
 .ops [sop nb 4 (.assign (.const (.slice none 0 0))) 22]) (
 .seq (
 .seq (
 .ops [qmv nb 7 0 22,
 qln nb 8 #[qt 7] #[22] 3,
 sop nb 9 (.move (qi 0)) 3]) (
 .block 0 (
  .loop (
   .seq (
   .ops [qbo nb 10 .lss 3 9 (qt 8) 3 0]) (
   .seq (
   .cond (qt 10) (
    .skip) (
    .exit 0)) (
   .seq (
   .block 1 (
    .seq (
    .ops [qmv nb 11 9 3,
 qix nb 12 22 7 9 0,
 qld nb 13 3 12,
 qsg nb 5 11 3,
 qsg nb 6 13 3]) (
    .seq (
    .ops [qmv nb 14 1 22,
 qmv nb 15 5 3,
 qcl nb 16 116 #[qt 14, qt 15] #[22, 3] 4,
 sop nb 17 (.unOp .not 4 (qt 16)) 4]) (
    .cond (qt 17) (
     .ops [qmv nb 18 4 22,
 qmv nb 19 6 3,
 sop nb 20 (.buildSlice 22 1 #[(0, qt 19)]) 22,
 sop nb 21 (.call { callee := .builtin .append, args := #[qt 18, qt 20], argTypes := #[22, 22] }) 22,
 qsg nb 4 21 22]) (
     .skip))))) (
   .ops [qbo nb 22 .add 3 9 (qi 1) 3 3,
 qmv nb 9 22 3]))))))) (
 .seq (
 .ops [qmv nb 23 4 22,
 qsg nb 4 23 22]) (
 .ret)))
@[go_sem] theorem rs89 : Go.Proofs.Try.f89.results.toList = [.tmp 4] := by kernel_rfl
theorem k89 (nb : Nat) : sk nb Go.Proofs.Try.f89.ntmps (Go.Proofs.Try.f89.body.getD .skip) = some (c89 nb) := by kernel_rfl
theorem w89 {a : List Arg} {r : RV} (h : W Q (c89 0) [] ⟨ρ0 (a.map fun a => a.m.lv), h0⟩ (retG Q Go.Proofs.Try.f89.results.toList (retF r))) (l : Nat.ble a.length Go.Proofs.Try.f89.ntmps = true := by kernel_rfl) : Fn Q 89 a r := fn_intro Go.Proofs.Try.func89 rfl (by kernel_rfl) mix (k89 0) (Nat.le_of_ble_eq_true l) h
noncomputable def c90 (nb : Nat) : SC :=
 .seq (
 .ops [sop nb 3 (.box 127 (qt 1)) 0,
 sop nb 4 (.alloc 22) 0,
 sop nb 5 (.alloc 4) 0]) (
 .seq (
 .seq (
 .ops [qmv nb 8 0 3,
 qbo nb 9 .add 3 8 (qi 1) 3 3,
 sop nb 10 (.move (qi 0)) 3]) (
 .block 0 (
  .loop (
   .seq (
   .ops [qbo nb 11 .lss 3 10 (qt 9) 3 4]) (
   .seq (
   .cond (qt 11) (
    .skip) (
    .exit 0)) (
   .seq (
   .block 1 (
    .seq (
    .ops [qmv nb 12 10 3,
 qsg nb 6 12 3]) (
    .seq (
    .ops [qmv nb 13 6 3,
 qmv nb 14 0 3,
 qcl nb 15 118 #[qt 14] #[3] 22,
 qcl nb 16 117 #[qt 13, qt 15] #[3, 22] 152]) (
    .block 2 (
     .rangeF (qt 16) [17] (
      .ops [qsg nb 7 17 22]) (
      .block 3 (
       .seq (
       .ops [qld nb 18 127 3,
 qmv nb 19 7 22,
 sop nb 20 (.call { callee := .value (qt 18), args := #[qt 19], argTypes := #[22] }) 4]) (
       .cond (qt 20) (
        .seq (
        .ops [qmv nb 21 7 22,
 nop (.store 22 (qt 4) (qt 21)) 0,
 nop (.store 4 (qt 5) (.const (.bool true))) 0]) (
        .ret)) (
        .skip))))))))) (
   .ops [qbo nb 22 .add 3 10 (qi 1) 3 3,
 qmv nb 10 22 3]))))))) (
 .seq (
 .ops [nop (.store 22 (qt 4) (.const (.slice none 0 0))) 0,
 nop (.store 4 (qt 5) (.const (.bool false))) 0]) (
 .ret)))
@[go_sem] theorem rs90 : Go.Proofs.Try.f90.results.toList = [.cell 4 22, .cell 5 4] := by kernel_rfl
theorem k90 (nb : Nat) : sk nb Go.Proofs.Try.f90.ntmps (Go.Proofs.Try.f90.body.getD .skip) = some (c90 nb) := by kernel_rfl
noncomputable def c94 (nb : Nat) : SC :=
 .seq (
 .ops [sop nb 4 (.assign (.const (.bool false))) 4]) (
 .seq (
 .ops [qmv nb 5 0 56,
 qmv nb 6 1 127,
 qcl nb 7 120 #[qt 5, qt 6] #[56, 127] 3,
 qbo nb 8 .geq 3 7 (qi 0) 3 4,
 qsg nb 4 8 4]) (
 .ret))
@[go_sem] theorem rs94 : Go.Proofs.Try.f94.results.toList = [.tmp 4] := by kernel_rfl
theorem k94 (nb : Nat) : sk nb Go.Proofs.Try.f94.ntmps (Go.Proofs.Try.f94.body.getD .skip) = some (c94 nb) := by kernel_rfl
theorem w94 {a : List Arg} {r : RV} (h : W Q (c94 0) [] ⟨ρ0 (a.map fun a => a.m.lv), h0⟩ (retG Q Go.Proofs.Try.f94.results.toList (retF r))) (l : Nat.ble a.length Go.Proofs.Try.f94.ntmps = true := by kernel_rfl) : Fn Q 94 a r := fn_intro Go.Proofs.Try.func94 rfl (by kernel_rfl) mix (k94 0) (Nat.le_of_ble_eq_true l) h
noncomputable def c95 (nb : Nat) : SC :=
 .seq (
 .ops [sop nb 4 (.assign (.const (.bool false))) 4]) (
 .seq (
 .opsD [qld nb 5 115 1,
 qmv nb 6 0 22,
 qcl nb 7 74 #[qt 5, qt 6] #[115, 22] 3,
 qld nb 8 3 2,
 qbo nb 9 .gtr 3 7 (qt 8) 3 4,
 qsg nb 4 9 4] [(2, 3)]) (
 .ret))
@[go_sem] theorem rs95 : Go.Proofs.Try.f95.results.toList = [.tmp 4] := by kernel_rfl
theorem en95 : Enters Q 95 := enters_of Go.Proofs.Try.func95 rfl (by kernel_rfl)
theorem k95 (nb : Nat) : sk nb Go.Proofs.Try.f95.ntmps (Go.Proofs.Try.f95.body.getD .skip) = some (c95 nb) := by kernel_rfl
theorem w95 {a : List Arg} {r : RV} (h : W Q (c95 0) [] ⟨ρ0 (a.map fun a => a.m.lv), h0⟩ (retG Q Go.Proofs.Try.f95.results.toList (retF r))) (l : Nat.ble a.length Go.Proofs.Try.f95.ntmps = true := by kernel_rfl) : Fn Q 95 a r := fn_intro Go.Proofs.Try.func95 rfl (by kernel_rfl) mix (k95 0) (Nat.le_of_ble_eq_true l) h
noncomputable def c96 (nb : Nat) : SC :=
 .seq (
 .ops [sop nb 3 (.box 132 (qt 0)) 0,
 sop nb 4 (.box 3 (qt 1)) 0,
 sop nb 5 (.box 3 (qt 2)) 0,
 sop nb 6 (.assign (.const .nilFunc)) 133]) (
 .seq (
 .ops [sop nb 7 (.makeFunc (.func 121) #[] #[qt 5, qt 3, qt 4]) 133,
 qsg nb 6 7 133]) (
 .ret))
@[go_sem] theorem rs96 : Go.Proofs.Try.f96.results.toList = [.tmp 6] := by kernel_rfl
theorem k96 (nb : Nat) : sk nb Go.Proofs.Try.f96.ntmps (Go.Proofs.Try.f96.body.getD .skip) = some (c96 nb) := by kernel_rfl
theorem w96 {a : List Arg} {r : RV} (h : W Q (c96 0) [] ⟨ρ0 (a.map fun a => a.m.lv), h0⟩ (retG Q Go.Proofs.Try.f96.results.toList (retF r))) (l : Nat.ble a.length Go.Proofs.Try.f96.ntmps = true := by kernel_rfl) : Fn Q 96 a r := fn_intro Go.Proofs.Try.func96 rfl (by kernel_rfl) mix (k96 0) (Nat.le_of_ble_eq_true l) h
noncomputable def c98 (nb : Nat) : SC :=
 .seq (
 .seq (
 .ops [qmv nb 11 0 135,
 sop nb 12 (.nilCheck (qt 11)) 0,
 sop nb 13 (.fieldAddr 137 (qt 12) 2) 0,
 qld nb 14 22 13,
 sop nb 15 (.binOp .neq 22 (qt 14) (.const (.slice none 0 0)) 22) 4,
 qmv nb 16 15 4,
 gop nb 17 (.move (qt 3)) 3 16 true,
 gop nb 18 (.move (qt 0)) 135 16 true,
 gop nb 19 (.nilCheck (qt 18)) 0 16 true,
 gop nb 20 (.fieldAddr 137 (qt 19) 3) 0 16 true,
 gop nb 21 (.load 3 (qt 20)) 3 16 true,
 gop nb 22 (.binOp .geq 3 (qt 17) (qt 21) 3) 4 16 true,
 sop nb 23 (.pick (qt 16) (qt 22) (.const (.bool false))) 4]) (
 .cond (qt 23) (
  .ret) (
  .skip))) (
 .seq (
 .seq (
 .ops [qmv nb 24 1 56,
 qln nb 25 #[qt 24] #[56] 3,
 qbo nb 26 .eql 3 25 (qi 0) 3 4]) (
 .cond (qt 26) (
  .seq (
  .ops [qmv nb 27 0 135,
 qmv nb 28 0 135,
 qmv nb 29 2 22,
 qcl nb 30 105 #[qt 29] #[22] 22,
 qmv nb 31 3 3,
 sop nb 32 (.nilCheck (qt 27)) 0,
 sop nb 33 (.fieldAddr 137 (qt 32) 2) 0,
 nop (.store 22 (qt 33) (qt 30)) 0,
 sop nb 34 (.nilCheck (qt 28)) 0,
 sop nb 35 (.fieldAddr 137 (qt 34) 3) 0,
 nop (.store 3 (qt 35) (qt 31)) 0]) (
  .ret)) (
  .skip))) (
 .seq (
 .ops [qmv nb 36 0 135,
 sop nb 37 (.nilCheck (qt 36)) 0,
 sop nb 38 (.fieldAddr 137 (qt 37) 0) 0,
 qld nb 39 115 38,
 qmv nb 40 1 56,
 sop nb 41 (.indexAddr 56 (qt 40) (qi 0)) 0,
 qld nb 42 22 41,
 qcl nb 43 74 #[qt 39, qt 42] #[115, 22] 3,
 qsg nb 8 43 3]) (
 .seq (
 .ops [qmv nb 44 0 135,
 sop nb 45 (.nilCheck (qt 44)) 0,
 sop nb 46 (.fieldAddr 137 (qt 45) 1) 0,
 qld nb 47 22 46,
 qln nb 48 #[qt 47] #[22] 3,
 sop nb 49 (.move (qi 0)) 3]) (
 .block 0 (
  .loop (
   .seq (
   .ops [qbo nb 50 .lss 3 49 (qt 48) 3 0]) (
   .seq (
   .cond (qt 50) (
    .skip) (
    .exit 0)) (
   .seq (
   .block 1 (
    .seq (
    .ops [qmv nb 51 49 3,
 qix nb 52 22 47 49 0,
 qld nb 53 3 52,
 qsg nb 9 51 3,
 qsg nb 10 53 3]) (
    .seq (
    .ops [qmv nb 54 10 3,
 qmv nb 55 8 3,
 qbo nb 56 .geq 3 54 (qt 55) 3 4,
 qmv nb 57 56 4,
 gop nb 58 (.move (qt 2)) 22 57 true,
 gop nb 59 (.move (qt 9)) 3 57 true,
 gop nb 60 (.call { callee := .value (.func 116), args := #[qt 58, qt 59], argTypes := #[22, 3] }) 4 57 true,
 gop nb 61 (.unOp .not 4 (qt 60)) 4 57 true,
 sop nb 62 (.pick (qt 57) (qt 61) (.const (.bool false))) 4]) (
    .cond (qt 62) (
     .opsD [qmv nb 63 0 135,
 qmv nb 64 1 56,
 sop nb 65 (.slice 56 (qt 64) (some (qi 1)) none none) 56,
 qmv nb 66 2 22,
 qcl nb 67 125 #[qt 66] #[22] 22,
 qmv nb 68 9 3,
 sop nb 69 (.buildSlice 22 1 #[(0, qt 68)]) 22,
 sop nb 70 (.call { callee := .builtin .append, args := #[qt 67, qt 69], argTypes := #[22, 22] }) 22,
 qmv nb 71 3 3,
 qmv nb 72 10 3,
 qbo nb 73 .add 3 71 (qt 72) 3 3,
 qcl nb 74 98 #[qt 63, qt 65, qt 70, qt 73] #[135, 56, 22, 3] 0] [(2, 4), (2, 6), (4, 6), (2, 7)]) (
     .skip))))) (
   .ops [qbo nb 75 .add 3 49 (qi 1) 3 3,
 qmv nb 49 75 3])))))))))
@[go_sem] theorem rs98 : Go.Proofs.Try.f98.results.toList = [] := by kernel_rfl
theorem k98 (nb : Nat) : sk nb Go.Proofs.Try.f98.ntmps (Go.Proofs.Try.f98.body.getD .skip) = some (c98 nb) := by kernel_rfl
noncomputable def c101 (nb : Nat) : SC :=
 .seq (
 .ops [sop nb 4 (.assign (.const (.bool false))) 4]) (
 .seq (
 .opsD [qld nb 5 22 1,
 qmv nb 6 0 22,
 qcl nb 7 89 #[qt 5, qt 6] #[22, 22] 22,
 qcl nb 8 77 #[qt 7] #[22] 3,
 qld nb 9 3 2,
 qbo nb 10 .leq 3 8 (qt 9) 3 4,
 qsg nb 4 10 4] [(2, 4), (3, 4)]) (
 .ret))
@[go_sem] theorem rs101 : Go.Proofs.Try.f101.results.toList = [.tmp 4] := by kernel_rfl
theorem k101 (nb : Nat) : sk nb Go.Proofs.Try.f101.ntmps (Go.Proofs.Try.f101.body.getD .skip) = some (c101 nb) := by kernel_rfl
theorem w101 {a : List Arg} {r : RV} (h : W Q (c101 0) [] ⟨ρ0 (a.map fun a => a.m.lv), h0⟩ (retG Q Go.Proofs.Try.f101.results.toList (retF r))) (l : Nat.ble a.length Go.Proofs.Try.f101.ntmps = true := by kernel_rfl) : Fn Q 101 a r := fn_intro Go.Proofs.Try.func101 rfl (by kernel_rfl) mix (k101 0) (Nat.le_of_ble_eq_true l) h
noncomputable def c102 (nb : Nat) : SC :=
 .seq (
 .ops [sop nb 2 (.assign (.const (.slice none 0 0))) 22]) (
 .seq (
 .seq (
 .ops [qmv nb 5 0 22,
 qln nb 6 #[qt 5] #[22] 3,
 sop nb 7 (.move (qi 0)) 3]) (
 .block 0 (
  .loop (
   .seq (
   .ops [qbo nb 8 .lss 3 7 (qt 6) 3 0]) (
   .seq (
   .cond (qt 8) (
    .skip) (
    .exit 0)) (
   .seq (
   .block 1 (
    .seq (
    .ops [qmv nb 9 7 3,
 qix nb 10 22 5 7 0,
 qld nb 11 3 10,
 qsg nb 3 9 3,
 qsg nb 4 11 3]) (
    .seq (
    .ops [qmv nb 12 4 3,
 qbo nb 13 .eql 3 12 (qi (-1)) 3 4]) (
    .cond (qt 13) (
     .ops [qmv nb 14 2 22,
 qmv nb 15 3 3,
 sop nb 16 (.buildSlice 22 1 #[(0, qt 15)]) 22,
 sop nb 17 (.call { callee := .builtin .append, args := #[qt 14, qt 16], argTypes := #[22, 22] }) 22,
 qsg nb 2 17 22]) (
     .skip))))) (
   .ops [qbo nb 18 .add 3 7 (qi 1) 3 3,
 qmv nb 7 18 3]))))))) (
 .seq (
 .ops [qmv nb 19 2 22,
 qsg nb 2 19 22]) (
 .ret)))
@[go_sem] theorem rs102 : Go.Proofs.Try.f102.results.toList = [.tmp 2] := by kernel_rfl
theorem k102 (nb : Nat) : sk nb Go.Proofs.Try.f102.ntmps (Go.Proofs.Try.f102.body.getD .skip) = some (c102 nb) := by kernel_rfl
theorem w102 {a : List Arg} {r : RV} (h : W Q (c102 0) [] ⟨ρ0 (a.map fun a => a.m.lv), h0⟩ (retG Q Go.Proofs.Try.f102.results.toList (retF r))) (l : Nat.ble a.length Go.Proofs.Try.f102.ntmps = true := by kernel_rfl) : Fn Q 102 a r := fn_intro Go.Proofs.Try.func102 rfl (by kernel_rfl) mix (k102 0) (Nat.le_of_ble_eq_true l) h
noncomputable def c103 (nb : Nat) : SC :=
 .seq (
 .ops [sop nb 3 (.box 115 (qt 0)) 0,
 sop nb 6 (.assign (.const (.bool false))) 4]) (
 .seq (
 .ops [qmv nb 7 1 22,
 qln nb 8 #[qt 7] #[22] 3,
 sop nb 9 (.buildSlice 22 1 #[(0, qt 8)]) 22,
 qcl nb 10 70 #[qi 1, qi 7, qt 9] #[3, 3, 22] 4,
 qmv nb 11 10 4,
 gop nb 12 (.move (qt 2)) 3 11 true,
 gop nb 13 (.fieldAddr 115 (qt 3) 0) 0 11 true,
 gop nb 14 (.fieldAddr 25 (qt 13) 0) 0 11 true,
 gop nb 15 (.load 22 (qt 14)) 22 11 true,
 gop nb 16 (.call { callee := .builtin .len, args := #[qt 15], argTypes := #[22] }) 3 11 true,
 gop nb 17 (.binOp .sub 3 (qt 16) (qi 1) 3) 3 11 true,
 gop nb 18 (.move (qt 1)) 22 11 true,
 gop nb 19 (.call { callee := .value (.func 70), args := #[qt 12, qt 17, qt 18], argTypes := #[3, 3, 22] }) 4 11 true,
 sop nb 20 (.pick (qt 11) (qt 19) (.const (.bool false))) 4,
 qsg nb 6 20 4]) (
 .ret))
@[go_sem] theorem rs103 : Go.Proofs.Try.f103.results.toList = [.tmp 6] := by kernel_rfl
theorem k103 (nb : Nat) : sk nb Go.Proofs.Try.f103.ntmps (Go.Proofs.Try.f103.body.getD .skip) = some (c103 nb) := by kernel_rfl
theorem w103 {a : List Arg} {r : RV} (h : W Q (c103 0) [] ⟨ρ0 (a.map fun a => a.m.lv), h0⟩ (retG Q Go.Proofs.Try.f103.results.toList (retF r))) (l : Nat.ble a.length Go.Proofs.Try.f103.ntmps = true := by kernel_rfl) : Fn Q 103 a r := fn_intro Go.Proofs.Try.func103 rfl (by kernel_rfl) mix (k103 0) (Nat.le_of_ble_eq_true l) h
noncomputable def c104 (nb : Nat) : SC :=
 .seq (
 .ops [sop nb 9 (.box 71 (qt 4)) 0,
 sop nb 10 (.assign (.const (.bool false))) 4]) (
 .seq (
 .seq (
 .ops [qmv nb 12 2 3,
 qmv nb 13 0 140,
 sop nb 14 (.nilCheck (qt 13)) 0,
 sop nb 15 (.fieldAddr 144 (qt 14) 1) 0,
 qld nb 16 22 15,
 qln nb 17 #[qt 16] #[22] 3,
 qbo nb 18 .eql 3 12 (qt 17) 3 4]) (
 .cond (qt 18) (
  .seq (
  .opsD [sop nb 19 (.fieldAddr 71 (qt 9) 0) 0,
 qld nb 20 3 19,
 sop nb 21 (.fieldAddr 71 (qt 9) 1) 0,
 qld nb 22 3 21,
 qmv nb 23 0 140,
 sop nb 24 (.nilCheck (qt 23)) 0,
 sop nb 25 (.fieldAddr 144 (qt 24) 0) 0,
 qld nb 26 115 25,
 qmv nb 27 1 22,
 qcl nb 28 83 #[qt 26, qt 27] #[115, 22] 3,
 qmv nb 29 3 3,
 qbo nb 30 .add 3 28 (qt 29) 3 3,
 sop nb 31 (.buildSlice 22 1 #[(0, qt 30)]) 22,
 qcl nb 32 70 #[qt 20, qt 22, qt 31] #[3, 3, 22] 4,
 qsg nb 10 32 4] [(1, 9), (3, 9), (1, 12), (3, 12)]) (
  .ret)) (
  .skip))) (
 .seq (
 .seq (
 .ops [qmv nb 33 0 140,
 sop nb 34 (.nilCheck (qt 33)) 0,
 sop nb 35 (.fieldAddr 144 (qt 34) 0) 0,
 sop nb 36 (.fieldAddr 115 (qt 35) 0) 0,
 sop nb 37 (.fieldAddr 25 (qt 36) 0) 0,
 qld nb 38 22 37,
 qln nb 39 #[qt 38] #[22] 3,
 sop nb 40 (.move (qi 0)) 3]) (
 .block 0 (
  .loop (
   .seq (
   .ops [qbo nb 41 .lss 3 40 (qt 39) 3 0]) (
   .seq (
   .cond (qt 41) (
    .skip) (
    .exit 0)) (
   .seq (
   .block 1 (
    .seq (
    .ops [qmv nb 42 40 3,
 qsg nb 11 42 3]) (
    .seq (
    .ops [qmv nb 43 1 22,
 qmv nb 44 0 140,
 sop nb 45 (.nilCheck (qt 44)) 0,
 sop nb 46 (.fieldAddr 144 (qt 45) 1) 0,
 qld nb 47 22 46,
 qmv nb 48 2 3,
 qix nb 49 22 47 48 0,
 qld nb 50 3 49,
 qmv nb 51 11 3,
 qix nb 52 22 43 50 0,
 nop (.store 3 (qt 52) (qt 51)) 0]) (
    .seq (
    .ops [qmv nb 53 0 140,
 qmv nb 54 1 22,
 qmv nb 55 2 3,
 qbo nb 56 .add 3 55 (qi 1) 3 3,
 qmv nb 57 3 3,
 qld nb 58 71 9,
 qcl nb 59 104 #[qt 53, qt 54, qt 56, qt 57, qt 58] #[140, 22, 3, 3, 71] 4]) (
    .cond (qt 59) (
     .seq (
     .ops [qmv nb 60 0 140,
 qmv nb 61 2 3,
 qmv nb 62 11 3,
 sop nb 63 (.nilCheck (qt 60)) 0,
 sop nb 64 (.fieldAddr 144 (qt 63) 2) 0,
 qix nb 65 142 64 61 0,
 qix nb 66 141 65 62 0,
 nop (.store 4 (qt 66) (.const (.bool true))) 0]) (
     .ops [sop nb 10 (.assign (.const (.bool true))) 4])) (
     .skip)))))) (
   .ops [qbo nb 67 .add 3 40 (qi 1) 3 3,
 qmv nb 40 67 3]))))))) (
 .seq (
 .ops [qmv nb 68 10 4,
 qsg nb 10 68 4]) (
 .ret))))
@[go_sem] theorem rs104 : Go.Proofs.Try.f104.results.toList = [.tmp 10] := by kernel_rfl
theorem k104 (nb : Nat) : sk nb Go.Proofs.Try.f104.ntmps (Go.Proofs.Try.f104.body.getD .skip) = some (c104 nb) := by kernel_rfl
noncomputable def c105 (nb : Nat) : SC :=
 .seq (
 .ops [sop nb 2 (.assign (.const (.slice none 0 0))) 22]) (
 .seq (
 .seq (
 .ops [qmv nb 3 0 22,
 sop nb 4 (.binOp .eql 22 (qt 3) (.const (.slice none 0 0)) 22) 4]) (
 .cond (qt 4) (
  .seq (
  .ops [sop nb 2 (.assign (.const (.slice none 0 0))) 22]) (
  .ret)) (
  .skip))) (
 .seq (
 .ops [sop nb 5 (.buildSlice 22 0 #[]) 22,
 qmv nb 6 0 22,
 sop nb 7 (.call { callee := .builtin .append, args := #[qt 5, qt 6], argTypes := #[22, 22] }) 22,
 qsg nb 2 7 22]) (
 .ret)))
@[go_sem] theorem rs105 : Go.Proofs.Try.f105.results.toList = [.tmp 2] := by kernel_rfl
theorem k105 (nb : Nat) : sk nb Go.Proofs.Try.f105.ntmps (Go.Proofs.Try.f105.body.getD .skip) = some (c105 nb) := by kernel_rfl
theorem w105 {a : List Arg} {r : RV} (h : W Q (c105 0) [] ⟨ρ0 (a.map fun a => a.m.lv), h0⟩ (retG Q Go.Proofs.Try.f105.results.toList (retF r))) (l : Nat.ble a.length Go.Proofs.Try.f105.ntmps = true := by kernel_rfl) : Fn Q 105 a r := fn_intro Go.Proofs.Try.func105 rfl (by kernel_rfl) mix (k105 0) (Nat.le_of_ble_eq_true l) h
noncomputable def c107 (nb : Nat) : SC :=
 .seq (
 .ops [sop nb 4 (.assign (.const (.bool false))) 4]) (
 .seq (
 .ops [qmv nb 5 0 22,
 qmv nb 6 1 91,
 qcl nb 7 126 #[qt 5, qt 6] #[22, 91] 3,
 qbo nb 8 .geq 3 7 (qi 0) 3 4,
 qsg nb 4 8 4]) (
 .ret))
@[go_sem] theorem rs107 : Go.Proofs.Try.f107.results.toList = [.tmp 4] := by kernel_rfl
theorem k107 (nb : Nat) : sk nb Go.Proofs.Try.f107.ntmps (Go.Proofs.Try.f107.body.getD .skip) = some (c107 nb) := by kernel_rfl
theorem w107 {a : List Arg} {r : RV} (h : W Q (c107 0) [] ⟨ρ0 (a.map fun a => a.m.lv), h0⟩ (retG Q Go.Proofs.Try.f107.results.toList (retF r))) (l : Nat.ble a.length Go.Proofs.Try.f107.ntmps = true := by kernel_rfl) : Fn Q 107 a r := fn_intro Go.Proofs.Try.func107 rfl (by kernel_rfl) mix (k107 0) (Nat.le_of_ble_eq_true l) h
noncomputable def c108 (nb : Nat) : SC :=
 .seq (
 .ops [sop nb 4 (.assign (.const (.bool false))) 4]) (
 .seq (
 .ops [qmv nb 5 0 3,
 qld nb 6 3 1,
 qbo nb 7 .lss 3 5 (qt 6) 3 4,
 qmv nb 8 7 4,
 gop nb 9 (.move (qt 0)) 3 8 false,
 gop nb 10 (.load 3 (qt 2)) 3 8 false,
 gop nb 11 (.binOp .gtr 3 (qt 9) (qt 10) 3) 4 8 false,
 sop nb 12 (.pick (qt 8) (.const (.bool true)) (qt 11)) 4,
 qsg nb 4 12 4]) (
 .ret))
@[go_sem] theorem rs108 : Go.Proofs.Try.f108.results.toList = [.tmp 4] := by kernel_rfl
theorem en108 : Enters Q 108 := enters_of Go.Proofs.Try.func108 rfl (by kernel_rfl)
theorem k108 (nb : Nat) : sk nb Go.Proofs.Try.f108.ntmps (Go.Proofs.Try.f108.body.getD .skip) = some (c108 nb) := by kernel_rfl
theorem w108 {a : List Arg} {r : RV} (h : W Q (c108 0) [] ⟨ρ0 (a.map fun a => a.m.lv), h0⟩ (retG Q Go.Proofs.Try.f108.results.toList (retF r))) (l : Nat.ble a.length Go.Proofs.Try.f108.ntmps = true := by kernel_rfl) : Fn Q 108 a r := fn_intro Go.Proofs.Try.func108 rfl (by kernel_rfl) mix (k108 0) (Nat.le_of_ble_eq_true l) h
noncomputable def c109 (nb : Nat) : SC :=
 .seq (
 .ops [sop nb 4 (.assign (qi 0)) 3]) (
 .seq (
 .seq (
 .ops [qmv nb 6 0 23,
 qln nb 7 #[qt 6] #[23] 3,
 sop nb 8 (.move (qi 0)) 3]) (
 .block 0 (
  .loop (
   .seq (
   .ops [qbo nb 9 .lss 3 8 (qt 7) 3 0]) (
   .seq (
   .cond (qt 9) (
    .skip) (
    .exit 0)) (
   .seq (
   .block 1 (
    .seq (
    .ops [qmv nb 10 8 3,
 qsg nb 5 10 3]) (
    .seq (
    .ops [qmv nb 11 1 110,
 qmv nb 12 0 23,
 qmv nb 13 5 3,
 qix nb 14 23 12 13 0,
 qld nb 15 108 14,
 sop nb 16 (.call { callee := .value (qt 11), args := #[qt 15], argTypes := #[108] }) 4]) (
    .cond (qt 16) (
     .seq (
     .ops [qmv nb 17 5 3,
 qsg nb 4 17 3]) (
     .ret)) (
     .skip))))) (
   .ops [qbo nb 18 .add 3 8 (qi 1) 3 3,
 qmv nb 8 18 3]))))))) (
 .seq (
 .ops [sop nb 4 (.assign (qi (-1))) 3]) (
 .ret)))
@[go_sem] theorem rs109 : Go.Proofs.Try.f109.results.toList = [.tmp 4] := by kernel_rfl
theorem k109 (nb : Nat) : sk nb Go.Proofs.Try.f109.ntmps (Go.Proofs.Try.f109.body.getD .skip) = some (c109 nb) := by kernel_rfl
theorem w109 {a : List Arg} {r : RV} (h : W Q (c109 0) [] ⟨ρ0 (a.map fun a => a.m.lv), h0⟩ (retG Q Go.Proofs.Try.f109.results.toList (retF r))) (l : Nat.ble a.length Go.Proofs.Try.f109.ntmps = true := by kernel_rfl) : Fn Q 109 a r := fn_intro Go.Proofs.Try.func109 rfl (by kernel_rfl) mix (k109 0) (Nat.le_of_ble_eq_true l) h
noncomputable def c110 (nb : Nat) : SC :=
 .seq (
 .ops [sop nb 3 (.assign (.const (.bool false))) 4]) (
 .seq (
 .ops [qld nb 4 115 1,
 qmv nb 5 0 22,
 qcl nb 6 103 #[qt 4, qt 5, qi 0] #[115, 22, 3] 4,
 sop nb 7 (.unOp .not 4 (qt 6)) 4,
 qsg nb 3 7 4]) (
 .ret))
@[go_sem] theorem rs110 : Go.Proofs.Try.f110.results.toList = [.tmp 3] := by kernel_rfl
theorem en110 : Enters Q 110 := enters_of Go.Proofs.Try.func110 rfl (by kernel_rfl)
theorem k110 (nb : Nat) : sk nb Go.Proofs.Try.f110.ntmps (Go.Proofs.Try.f110.body.getD .skip) = some (c110 nb) := by kernel_rfl
theorem w110 {a : List Arg} {r : RV} (h : W Q (c110 0) [] ⟨ρ0 (a.map fun a => a.m.lv), h0⟩ (retG Q Go.Proofs.Try.f110.results.toList (retF r))) (l : Nat.ble a.length Go.Proofs.Try.f110.ntmps = true := by kernel_rfl) : Fn Q 110 a r := fn_intro Go.Proofs.Try.func110 rfl (by kernel_rfl) mix (k110 0) (Nat.le_of_ble_eq_true l) h
noncomputable def c111 (nb : Nat) : SC :=
 .seq (
 .ops [sop nb 2 (.assign (qi 0)) 3]) (
 .seq (
 .seq (
 .ops [qmv nb 5 0 22,
 qln nb 6 #[qt 5] #[22] 3,
 qbo nb 7 .lss 3 6 (qi 1) 3 4]) (
 .cond (qt 7) (
  .ops [sop nb 8 (.makeInterface 9 (.const (.string { data := #[115, 108, 105, 99, 101, 115, 46, 77, 97, 120, 58, 32, 101, 109, 112, 116, 121, 32, 108, 105, 115, 116] }))) 20,
 nop (.panic (qt 8)) 0]) (
  .skip))) (
 .seq (
 .ops [qmv nb 9 0 22,
 sop nb 10 (.indexAddr 22 (qt 9) (qi 0)) 0,
 qld nb 11 3 10,
 qsg nb 3 11 3]) (
 .seq (
 .seq (
 .ops [sop nb 4 (.assign (qi 1)) 3]) (
 .block 0 (
  .loop (
   .seq (
   .seq (
   .ops [qmv nb 12 4 3,
 qmv nb 13 0 22,
 qln nb 14 #[qt 13] #[22] 3,
 qbo nb 15 .lss 3 12 (qt 14) 3 4]) (
   .cond (qt 15) (
    .skip) (
    .exit 0))) (
   .seq (
   .block 1 (
    .ops [qmv nb 18 3 3,
 qmv nb 19 0 22,
 qmv nb 20 4 3,
 qix nb 21 22 19 20 0,
 qld nb 22 3 21,
 sop nb 23 (.call { callee := .builtin .max, args := #[qt 18, qt 22], argTypes := #[3, 3] }) 3,
 qsg nb 3 23 3])) (
   .ops [qmv nb 16 4 3,
 qbo nb 17 .add 3 16 (qi 1) 3 3,
 qsg nb 4 17 3])))))) (
 .seq (
 .ops [qmv nb 24 3 3,
 qsg nb 2 24 3]) (
 .ret)))))
@[go_sem] theorem rs111 : Go.Proofs.Try.f111.results.toList = [.tmp 2] := by kernel_rfl
theorem k111 (nb : Nat) : sk nb Go.Proofs.Try.f111.ntmps (Go.Proofs.Try.f111.body.getD .skip) = some (c111 nb) := by kernel_rfl
theorem w111 {a : List Arg} {r : RV} (h : W Q (c111 0) [] ⟨ρ0 (a.map fun a => a.m.lv), h0⟩ (retG Q Go.Proofs.Try.f111.results.toList (retF r))) (l : Nat.ble a.length Go.Proofs.Try.f111.ntmps = true := by kernel_rfl) : Fn Q 111 a r := fn_intro Go.Proofs.Try.func111 rfl (by kernel_rfl) mix (k111 0) (Nat.le_of_ble_eq_true l) h
noncomputable def c112 (nb : Nat) : SC :=
 .seq (
 .ops [sop nb 2 (.assign (qi 0)) 3]) (
 .seq (
 .seq (
 .ops [qmv nb 5 0 22,
 qln nb 6 #[qt 5] #[22] 3,
 qbo nb 7 .lss 3 6 (qi 1) 3 4]) (
 .cond (qt 7) (
  .ops [sop nb 8 (.makeInterface 9 (.const (.string { data := #[115, 108, 105, 99, 101, 115, 46, 77, 105, 110, 58, 32, 101, 109, 112, 116, 121, 32, 108, 105, 115, 116] }))) 20,
 nop (.panic (qt 8)) 0]) (
  .skip))) (
 .seq (
 .ops [qmv nb 9 0 22,
 sop nb 10 (.indexAddr 22 (qt 9) (qi 0)) 0,
 qld nb 11 3 10,
 qsg nb 3 11 3]) (
 .seq (
 .seq (
 .ops [sop nb 4 (.assign (qi 1)) 3]) (
 .block 0 (
  .loop (
   .seq (
   .seq (
   .ops [qmv nb 12 4 3,
 qmv nb 13 0 22,
 qln nb 14 #[qt 13] #[22] 3,
 qbo nb 15 .lss 3 12 (qt 14) 3 4]) (
   .cond (qt 15) (
    .skip) (
    .exit 0))) (
   .seq (
   .block 1 (
    .ops [qmv nb 18 3 3,
 qmv nb 19 0 22,
 qmv nb 20 4 3,
 qix nb 21 22 19 20 0,
 qld nb 22 3 21,
 sop nb 23 (.call { callee := .builtin .min, args := #[qt 18, qt 22], argTypes := #[3, 3] }) 3,
 qsg nb 3 23 3])) (
   .ops [qmv nb 16 4 3,
 qbo nb 17 .add 3 16 (qi 1) 3 3,
 qsg nb 4 17 3])))))) (
 .seq (
 .ops [qmv nb 24 3 3,
 qsg nb 2 24 3]) (
 .ret)))))
@[go_sem] theorem rs112 : Go.Proofs.Try.f112.results.toList = [.tmp 2] := by kernel_rfl
theorem k112 (nb : Nat) : sk nb Go.Proofs.Try.f112.ntmps (Go.Proofs.Try.f112.body.getD .skip) = some (c112 nb) := by kernel_rfl
theorem w112 {a : List Arg} {r : RV} (h : W Q (c112 0) [] ⟨ρ0 (a.map fun a => a.m.lv), h0⟩ (retG Q Go.Proofs.Try.f112.results.toList (retF r))) (l : Nat.ble a.length Go.Proofs.Try.f112.ntmps = true := by kernel_rfl) : Fn Q 112 a r := fn_intro Go.Proofs.Try.func112 rfl (by kernel_rfl) mix (k112 0) (Nat.le_of_ble_eq_true l) h
noncomputable def c114 (nb : Nat) : SC :=
 .seq (
 .ops [sop nb 3 (.box 115 (qt 0)) 0,
 sop nb 5 (.box 123 (qt 2)) 0,
 sop nb 6 (.assign (.const (.slice none 0 0))) 22,
 sop nb 7 (.assign (.const (.slice none 0 0))) 22,
 sop nb 8 (.assign (qi 0)) 3,
 sop nb 9 (.assign (qi 0)) 3,
 sop nb 10 (.assign (.const (.bool false))) 4]) (
 .seq (
 .ops [sop nb 10 (.assign (.const (.bool true))) 4]) (
 .seq (
 .seq (
 .ops [qld nb 15 115 3,
 qmv nb 16 1 22,
 qcl nb 17 76 #[qt 15, qt 16] #[115, 22] 22,
 qln nb 18 #[qt 17] #[22] 3,
 sop nb 19 (.move (qi 0)) 3]) (
 .block 0 (
  .loop (
   .seq (
   .ops [qbo nb 20 .lss 3 19 (qt 18) 3 0]) (
   .seq (
   .cond (qt 20) (
    .skip) (
    .exit 0)) (
   .seq (
   .block 1 (
    .seq (
    .ops [qix nb 21 22 17 19 0,
 qld nb 22 3 21,
 qsg nb 12 22 3]) (
    .seq (
    .opsD [sop nb 23 (.fieldAddr 123 (qt 5) 0) 0,
 qld nb 24 3 23,
 qmv nb 25 12 3,
 qbo nb 26 .sub 3 24 (qt 25) 3 3,
 sop nb 27 (.call { callee := .builtin .max, args := #[qi 0, qt 26], argTypes := #[3, 3] }) 3,
 sop nb 28 (.fieldAddr 123 (qt 5) 1) 0,
 qld nb 29 3 28,
 qmv nb 30 12 3,
 qbo nb 31 .sub 3 29 (qt 30) 3 3,
 qsg nb 13 27 3,
 qsg nb 14 31 3] [(6, 9)]) (
    .seq (
    .ops [qmv nb 32 6 22,
 qmv nb 33 13 3,
 sop nb 34 (.buildSlice 22 1 #[(0, qt 33)]) 22,
 sop nb 35 (.call { callee := .builtin .append, args := #[qt 32, qt 34], argTypes := #[22, 22] }) 22,
 qmv nb 36 7 22,
 qmv nb 37 14 3,
 sop nb 38 (.buildSlice 22 1 #[(0, qt 37)]) 22,
 sop nb 39 (.call { callee := .builtin .append, args := #[qt 36, qt 38], argTypes := #[22, 22] }) 22,
 qsg nb 6 35 22,
 qsg nb 7 39 22]) (
    .ops [qmv nb 40 8 3,
 qmv nb 41 13 3,
 qbo nb 42 .add 3 40 (qt 41) 3 3,
 qmv nb 43 9 3,
 qmv nb 44 14 3,
 qbo nb 45 .add 3 43 (qt 44) 3 3,
 qmv nb 46 10 4,
 qmv nb 47 46 4,
 gop nb 48 (.move (qt 13)) 3 47 true,
 gop nb 49 (.move (qt 14)) 3 47 true,
 gop nb 50 (.binOp .leq 3 (qt 48) (qt 49) 3) 4 47 true,
 sop nb 51 (.pick (qt 47) (qt 50) (.const (.bool false))) 4,
 qsg nb 8 42 3,
 qsg nb 9 45 3,
 qsg nb 10 51 4]))))) (
   .ops [qbo nb 52 .add 3 19 (qi 1) 3 3,
 qmv nb 19 52 3]))))))) (
 .seq (
 .ops [qmv nb 53 6 22,
 qmv nb 54 7 22,
 qmv nb 55 8 3,
 qmv nb 56 9 3,
 qmv nb 57 10 4,
 qsg nb 6 53 22,
 qsg nb 7 54 22,
 qsg nb 8 55 3,
 qsg nb 9 56 3,
 qsg nb 10 57 4]) (
 .ret))))
@[go_sem] theorem rs114 : Go.Proofs.Try.f114.results.toList = [.tmp 6, .tmp 7, .tmp 8, .tmp 9, .tmp 10] := by kernel_rfl
theorem k114 (nb : Nat) : sk nb Go.Proofs.Try.f114.ntmps (Go.Proofs.Try.f114.body.getD .skip) = some (c114 nb) := by kernel_rfl
theorem w114 {a : List Arg} {r : RV} (h : W Q (c114 0) [] ⟨ρ0 (a.map fun a => a.m.lv), h0⟩ (retG Q Go.Proofs.Try.f114.results.toList (retF r))) (l : Nat.ble a.length Go.Proofs.Try.f114.ntmps = true := by kernel_rfl) : Fn Q 114 a r := fn_intro Go.Proofs.Try.func114 rfl (by kernel_rfl) mix (k114 0) (Nat.le_of_ble_eq_true l) h
noncomputable def c115 (nb : Nat) : SC :=
 .seq (
 .ops [sop nb 4 (.assign (qi 0)) 3]) (
 .seq (
 .ops [qmv nb 7 0 3,
 qcl nb 8 127 #[qt 7] #[3] 4,
 qsg nb 5 8 4]) (
 .seq (
 .ops [qmv nb 9 1 3,
 qcl nb 10 127 #[qt 9] #[3] 4,
 qsg nb 6 10 4]) (
 .seq (
 .seq (
 .ops [qmv nb 11 5 4]) (
 .cond (qt 11) (
  .seq (
  .seq (
  .ops [qmv nb 12 6 4]) (
  .cond (qt 12) (
   .seq (
   .ops [sop nb 4 (.assign (qi 0)) 3]) (
   .ret)) (
   .skip))) (
  .seq (
  .ops [sop nb 4 (.assign (qi (-1))) 3]) (
  .ret))) (
  .skip))) (
 .seq (
 .seq (
 .ops [qmv nb 13 6 4]) (
 .cond (qt 13) (
  .seq (
  .ops [sop nb 4 (.assign (qi 1)) 3]) (
  .ret)) (
  .skip))) (
 .seq (
 .seq (
 .ops [qmv nb 14 0 3,
 qmv nb 15 1 3,
 qbo nb 16 .lss 3 14 (qt 15) 3 4]) (
 .cond (qt 16) (
  .seq (
  .ops [sop nb 4 (.assign (qi (-1))) 3]) (
  .ret)) (
  .skip))) (
 .seq (
 .seq (
 .ops [qmv nb 17 0 3,
 qmv nb 18 1 3,
 qbo nb 19 .gtr 3 17 (qt 18) 3 4]) (
 .cond (qt 19) (
  .seq (
  .ops [sop nb 4 (.assign (qi 1)) 3]) (
  .ret)) (
  .skip))) (
 .seq (
 .ops [sop nb 4 (.assign (qi 0)) 3]) (
 .ret))))))))
@[go_sem] theorem rs115 : Go.Proofs.Try.f115.results.toList = [.tmp 4] := by kernel_rfl
theorem k115 (nb : Nat) : sk nb Go.Proofs.Try.f115.ntmps (Go.Proofs.Try.f115.body.getD .skip) = some (c115 nb) := by kernel_rfl
theorem w115 {a : List Arg} {r : RV} (h : W Q (c115 0) [] ⟨ρ0 (a.map fun a => a.m.lv), h0⟩ (retG Q Go.Proofs.Try.f115.results.toList (retF r))) (l : Nat.ble a.length Go.Proofs.Try.f115.ntmps = true := by kernel_rfl) : Fn Q 115 a r := fn_intro Go.Proofs.Try.func115 rfl (by kernel_rfl) mix (k115 0) (Nat.le_of_ble_eq_true l) h
noncomputable def c116 (nb : Nat) : SC :=
 .seq (
 .ops [sop nb 4 (.assign (.const (.bool false))) 4]) (
 .seq (
 .ops [qmv nb 5 0 22,
 qmv nb 6 1 3,
 qcl nb 7 128 #[qt 5, qt 6] #[22, 3] 3,
 qbo nb 8 .geq 3 7 (qi 0) 3 4,
 qsg nb 4 8 4]) (
 .ret))
@[go_sem] theorem rs116 : Go.Proofs.Try.f116.results.toList = [.tmp 4] := by kernel_rfl
theorem k116 (nb : Nat) : sk nb Go.Proofs.Try.f116.ntmps (Go.Proofs.Try.f116.body.getD .skip) = some (c116 nb) := by kernel_rfl
theorem w116 {a : List Arg} {r : RV} (h : W Q (c116 0) [] ⟨ρ0 (a.map fun a => a.m.lv), h0⟩ (retG Q Go.Proofs.Try.f116.results.toList (retF r))) (l : Nat.ble a.length Go.Proofs.Try.f116.ntmps = true := by kernel_rfl) : Fn Q 116 a r := fn_intro Go.Proofs.Try.func116 rfl (by kernel_rfl) mix (k116 0) (Nat.le_of_ble_eq_true l) h
noncomputable def c117 (nb : Nat) : SC :=
 .seq (
 .ops [sop nb 2 (.box 3 (qt 0)) 0,
 sop nb 3 (.box 22 (qt 1)) 0,
 sop nb 4 (.assign (.const .nilFunc)) 152]) (
 .seq (
 .ops [sop nb 5 (.makeFunc (.func 129) #[] #[qt 2, qt 3]) 152,
 qsg nb 4 5 152]) (
 .ret))
@[go_sem] theorem rs117 : Go.Proofs.Try.f117.results.toList = [.tmp 4] := by kernel_rfl
theorem k117 (nb : Nat) : sk nb Go.Proofs.Try.f117.ntmps (Go.Proofs.Try.f117.body.getD .skip) = some (c117 nb) := by kernel_rfl
theorem w117 {a : List Arg} {r : RV} (h : W Q (c117 0) [] ⟨ρ0 (a.map fun a => a.m.lv), h0⟩ (retG Q Go.Proofs.Try.f117.results.toList (retF r))) (l : Nat.ble a.length Go.Proofs.Try.f117.ntmps = true := by kernel_rfl) : Fn Q 117 a r := fn_intro Go.Proofs.Try.func117 rfl (by kernel_rfl) mix (k117 0) (Nat.le_of_ble_eq_true l) h
noncomputable def c118 (nb : Nat) : SC :=
 .seq (
 .ops [sop nb 2 (.assign (.const (.slice none 0 0))) 22]) (
 .seq (
 .seq (
 .ops [qmv nb 4 0 3,
 sop nb 5 (.move (qi 0)) 3]) (
 .block 0 (
  .loop (
   .seq (
   .ops [qbo nb 6 .lss 3 5 (qt 4) 3 4]) (
   .seq (
   .cond (qt 6) (
    .skip) (
    .exit 0)) (
   .seq (
   .block 1 (
    .seq (
    .ops [qmv nb 7 5 3,
 qsg nb 3 7 3]) (
    .ops [qmv nb 8 2 22,
 qmv nb 9 3 3,
 sop nb 10 (.buildSlice 22 1 #[(0, qt 9)]) 22,
 sop nb 11 (.call { callee := .builtin .append, args := #[qt 8, qt 10], argTypes := #[22, 22] }) 22,
 qsg nb 2 11 22]))) (
   .ops [qbo nb 12 .add 3 5 (qi 1) 3 3,
 qmv nb 5 12 3]))))))) (
 .seq (
 .ops [qmv nb 13 2 22,
 qsg nb 2 13 22]) (
 .ret)))
@[go_sem] theorem rs118 : Go.Proofs.Try.f118.results.toList = [.tmp 2] := by kernel_rfl
theorem k118 (nb : Nat) : sk nb Go.Proofs.Try.f118.ntmps (Go.Proofs.Try.f118.body.getD .skip) = some (c118 nb) := by kernel_rfl
theorem w118 {a : List Arg} {r : RV} (h : W Q (c118 0) [] ⟨ρ0 (a.map fun a => a.m.lv), h0⟩ (retG Q Go.Proofs.Try.f118.results.toList (retF r))) (l : Nat.ble a.length Go.Proofs.Try.f118.ntmps = true := by kernel_rfl) : Fn Q 118 a r := fn_intro Go.Proofs.Try.func118 rfl (by kernel_rfl) mix (k118 0) (Nat.le_of_ble_eq_true l) h
noncomputable def c120 (nb : Nat) : SC :=
 .seq (
 .ops [sop nb 4 (.assign (qi 0)) 3]) (
 .seq (
 .seq (
 .ops [qmv nb 6 0 56,
 qln nb 7 #[qt 6] #[56] 3,
 sop nb 8 (.move (qi 0)) 3]) (
 .block 0 (
  .loop (
   .seq (
   .ops [qbo nb 9 .lss 3 8 (qt 7) 3 0]) (
   .seq (
   .cond (qt 9) (
    .skip) (
    .exit 0)) (
   .seq (
   .block 1 (
    .seq (
    .ops [qmv nb 10 8 3,
 qsg nb 5 10 3]) (
    .seq (
    .ops [qmv nb 11 1 127,
 qmv nb 12 0 56,
 qmv nb 13 5 3,
 qix nb 14 56 12 13 0,
 qld nb 15 22 14,
 sop nb 16 (.call { callee := .value (qt 11), args := #[qt 15], argTypes := #[22] }) 4]) (
    .cond (qt 16) (
     .seq (
     .ops [qmv nb 17 5 3,
 qsg nb 4 17 3]) (
     .ret)) (
     .skip))))) (
   .ops [qbo nb 18 .add 3 8 (qi 1) 3 3,
 qmv nb 8 18 3]))))))) (
 .seq (
 .ops [sop nb 4 (.assign (qi (-1))) 3]) (
 .ret)))
@[go_sem] theorem rs120 : Go.Proofs.Try.f120.results.toList = [.tmp 4] := by kernel_rfl
theorem k120 (nb : Nat) : sk nb Go.Proofs.Try.f120.ntmps (Go.Proofs.Try.f120.body.getD .skip) = some (c120 nb) := by kernel_rfl
theorem w120 {a : List Arg} {r : RV} (h : W Q (c120 0) [] ⟨ρ0 (a.map fun a => a.m.lv), h0⟩ (retG Q Go.Proofs.Try.f120.results.toList (retF r))) (l : Nat.ble a.length Go.Proofs.Try.f120.ntmps = true := by kernel_rfl) : Fn Q 120 a r := fn_intro Go.Proofs.Try.func120 rfl (by kernel_rfl) mix (k120 0) (Nat.le_of_ble_eq_true l) h
noncomputable def c121 (nb : Nat) : SC :=
 .seq (
 .ops [sop nb 4 (.box 93 (qt 0)) 0]) (
 .seq (
 .seq (
 .ops [qld nb 10 3 1,
 qbo nb 11 .eql 3 10 (qi 1) 3 4]) (
 .cond (qt 11) (
  .seq (
  .seq (
  .ops [qld nb 12 132 2,
 qld nb 13 3 3,
 sop nb 14 (.fieldAddr 132 (qt 2) 1) 0,
 qld nb 15 56 14,
 qln nb 16 #[qt 15] #[56] 3,
 qcl nb 17 122 #[qt 12, qt 13, qt 16] #[132, 3, 3] 3,
 qsg nb 5 17 3]) (
  .seq (
  .ops [qmv nb 18 5 3,
 qbo nb 19 .geq 3 18 (qi 0) 3 4]) (
  .cond (qt 19) (
   .ops [qld nb 20 93 4,
 qld nb 21 3 3,
 sop nb 22 (.buildSlice 22 1 #[(0, qt 21)]) 22,
 qmv nb 23 5 3,
 sop nb 24 (.call { callee := .value (qt 20), args := #[qt 22, qt 23], argTypes := #[22, 3] }) 4]) (
   .skip)))) (
  .ret)) (
  .skip))) (
 .seq (
 .ops [qld nb 25 3 3,
 qbo nb 26 .add 3 25 (qi 1) 3 3,
 qsg nb 6 26 3]) (
 .block 0 (
  .loop (
   .seq (
   .seq (
   .ops [qmv nb 27 6 3,
 sop nb 28 (.fieldAddr 132 (qt 2) 1) 0,
 qld nb 29 56 28,
 qln nb 30 #[qt 29] #[56] 3,
 qbo nb 31 .lss 3 27 (qt 30) 3 4]) (
   .cond (qt 31) (
    .skip) (
    .exit 0))) (
   .seq (
   .block 1 (
    .seq (
    .ops [qld nb 34 132 2,
 qld nb 35 3 3,
 qmv nb 36 6 3,
 qcl nb 37 122 #[qt 34, qt 35, qt 36] #[132, 3, 3] 3,
 sop nb 7 (.alloc 3) 0,
 nop (.store 3 (qt 7) (qt 37)) 0]) (
    .seq (
    .seq (
    .ops [qld nb 38 3 7,
 qbo nb 39 .lss 3 38 (qi 0) 3 4]) (
    .cond (qt 39) (
     .ret) (
     .skip))) (
    .seq (
    .ops [qld nb 40 132 2,
 qmv nb 41 6 3,
 qld nb 42 3 1,
 qbo nb 43 .sub 3 42 (qi 1) 3 3,
 qcl nb 44 96 #[qt 40, qt 41, qt 43] #[132, 3, 3] 133]) (
    .block 2 (
     .rangeF (qt 44) [45, 46] (
      .seq (
      .ops [qsg nb 8 45 22]) (
      .ops [qsg nb 9 46 3])) (
      .block 3 (
       .seq (
       .opsD [qld nb 47 93 4,
 qld nb 48 3 3,
 sop nb 49 (.buildSlice 22 1 #[(0, qt 48)]) 22,
 qmv nb 50 8 22,
 sop nb 51 (.buildSlice 56 2 #[(0, qt 49), (1, qt 50)]) 56,
 qcl nb 52 123 #[qt 51] #[56] 22,
 qld nb 53 3 7,
 qmv nb 54 9 3,
 sop nb 55 (.call { callee := .builtin .max, args := #[qt 53, qt 54], argTypes := #[3, 3] }) 3,
 sop nb 56 (.call { callee := .value (qt 47), args := #[qt 52, qt 55], argTypes := #[22, 3] }) 4,
 sop nb 57 (.unOp .not 4 (qt 56)) 4] [(0, 2), (0, 4), (0, 5), (2, 6), (4, 6), (5, 6)]) (
       .cond (qt 57) (
        .ret) (
        .skip)))))))))) (
   .ops [qmv nb 32 6 3,
 qbo nb 33 .add 3 32 (qi 1) 3 3,
 qsg nb 6 33 3])))))))
@[go_sem] theorem rs121 : Go.Proofs.Try.f121.results.toList = [] := by kernel_rfl
theorem k121 (nb : Nat) : sk nb Go.Proofs.Try.f121.ntmps (Go.Proofs.Try.f121.body.getD .skip) = some (c121 nb) := by kernel_rfl
noncomputable def c122 (nb : Nat) : SC :=
 .seq (
 .ops [sop nb 3 (.box 132 (qt 0)) 0,
 sop nb 6 (.assign (qi 0)) 3]) (
 .seq (
 .ops [sop nb 10 (.fieldAddr 132 (qt 3) 2) 0,
 qld nb 11 3 10,
 sop nb 12 (.fieldAddr 132 (qt 3) 0) 0,
 sop nb 13 (.fieldAddr 115 (qt 12) 0) 0,
 sop nb 14 (.fieldAddr 25 (qt 13) 2) 0,
 qld nb 15 3 14,
 sop nb 16 (.binOp .mul 3 (qi 2) (qt 15) 3) 3,
 qbo nb 17 .sub 3 11 (qt 16) 3 3,
 sop nb 18 (.fieldAddr 132 (qt 3) 0) 0,
 sop nb 19 (.fieldAddr 115 (qt 18) 0) 0,
 sop nb 20 (.fieldAddr 25 (qt 19) 4) 0,
 qld nb 21 3 20,
 qbo nb 22 .add 3 17 (qt 21) 3 3,
 qsg nb 7 22 3]) (
 .seq (
 .seq (
 .ops [sop nb 23 (.fieldAddr 132 (qt 3) 1) 0,
 qld nb 24 56 23,
 qmv nb 25 1 3,
 qmv nb 26 2 3,
 sop nb 27 (.slice 56 (qt 24) (some (qt 25)) (some (qt 26)) none) 56,
 qln nb 28 #[qt 27] #[56] 3,
 sop nb 29 (.move (qi 0)) 3]) (
 .block 0 (
  .loop (
   .seq (
   .ops [qbo nb 30 .lss 3 29 (qt 28) 3 0]) (
   .seq (
   .cond (qt 30) (
    .skip) (
    .exit 0)) (
   .seq (
   .block 1 (
    .seq (
    .ops [qix nb 31 56 27 29 0,
 qld nb 32 22 31,
 qsg nb 9 32 22]) (
    .opsD [qmv nb 33 7 3,
 sop nb 34 (.fieldAddr 132 (qt 3) 0) 0,
 qld nb 35 115 34,
 qmv nb 36 9 22,
 qcl nb 37 74 #[qt 35, qt 36] #[115, 22] 3,
 sop nb 38 (.fieldAddr 132 (qt 3) 0) 0,
 sop nb 39 (.fieldAddr 115 (qt 38) 0) 0,
 sop nb 40 (.fieldAddr 25 (qt 39) 2) 0,
 qld nb 41 3 40,
 sop nb 42 (.binOp .mul 3 (qi 2) (qt 41) 3) 3,
 qbo nb 43 .sub 3 37 (qt 42) 3 3,
 sop nb 44 (.fieldAddr 132 (qt 3) 0) 0,
 sop nb 45 (.fieldAddr 115 (qt 44) 0) 0,
 sop nb 46 (.fieldAddr 25 (qt 45) 4) 0,
 qld nb 47 3 46,
 qbo nb 48 .add 3 43 (qt 47) 3 3,
 qbo nb 49 .sub 3 33 (qt 48) 3 3,
 qsg nb 7 49 3] [(4, 8), (4, 14)]))) (
   .ops [qbo nb 50 .add 3 29 (qi 1) 3 3,
 qmv nb 29 50 3]))))))) (
 .seq (
 .ops [qmv nb 51 7 3,
 qsg nb 6 51 3]) (
 .ret))))
@[go_sem] theorem rs122 : Go.Proofs.Try.f122.results.toList = [.tmp 6] := by kernel_rfl
theorem k122 (nb : Nat) : sk nb Go.Proofs.Try.f122.ntmps (Go.Proofs.Try.f122.body.getD .skip) = some (c122 nb) := by kernel_rfl
theorem w122 {a : List Arg} {r : RV} (h : W Q (c122 0) [] ⟨ρ0 (a.map fun a => a.m.lv), h0⟩ (retG Q Go.Proofs.Try.f122.results.toList (retF r))) (l : Nat.ble a.length Go.Proofs.Try.f122.ntmps = true := by kernel_rfl) : Fn Q 122 a r := fn_intro Go.Proofs.Try.func122 rfl (by kernel_rfl) mix (k122 0) (Nat.le_of_ble_eq_true l) h
noncomputable def c123 (nb : Nat) : SC :=
 .seq (
 .ops [sop nb 2 (.assign (.const (.slice none 0 0))) 22]) (
 .seq (
 .ops [sop nb 3 (.assign (qi 0)) 3]) (
 .seq (
 .seq (
 .ops [qmv nb 9 0 56,
 qln nb 10 #[qt 9] #[56] 3,
 sop nb 11 (.move (qi 0)) 3]) (
 .block 0 (
  .loop (
   .seq (
   .ops [qbo nb 12 .lss 3 11 (qt 10) 3 0]) (
   .seq (
   .cond (qt 12) (
    .skip) (
    .exit 0)) (
   .seq (
   .block 1 (
    .seq (
    .ops [qix nb 13 56 9 11 0,
 qld nb 14 22 13,
 qsg nb 5 14 22]) (
    .seq (
    .ops [qmv nb 15 3 3,
 qmv nb 16 5 22,
 qln nb 17 #[qt 16] #[22] 3,
 qbo nb 18 .add 3 15 (qt 17) 3 3,
 qsg nb 3 18 3]) (
    .seq (
    .ops [qmv nb 19 3 3,
 qbo nb 20 .lss 3 19 (qi 0) 3 4]) (
    .cond (qt 20) (
     .ops [sop nb 21 (.makeInterface 9 (.const (.string { data := #[108, 101, 110, 32, 111, 117, 116, 32, 111, 102, 32, 114, 97, 110, 103, 101] }))) 20,
 nop (.panic (qt 21)) 0]) (
     .skip)))))) (
   .ops [qbo nb 22 .add 3 11 (qi 1) 3 3,
 qmv nb 11 22 3]))))))) (
 .seq (
 .ops [qmv nb 23 3 3,
 qcl nb 24 130 #[(.const (.slice none 0 0)), qt 23] #[22, 3] 22,
 qsg nb 6 24 22]) (
 .seq (
 .seq (
 .ops [qmv nb 25 0 56,
 qln nb 26 #[qt 25] #[56] 3,
 sop nb 27 (.move (qi 0)) 3]) (
 .block 2 (
  .loop (
   .seq (
   .ops [qbo nb 28 .lss 3 27 (qt 26) 3 0]) (
   .seq (
   .cond (qt 28) (
    .skip) (
    .exit 2)) (
   .seq (
   .block 3 (
    .seq (
    .ops [qix nb 29 56 25 27 0,
 qld nb 30 22 29,
 qsg nb 8 30 22]) (
    .ops [qmv nb 31 6 22,
 qmv nb 32 8 22,
 sop nb 33 (.call { callee := .builtin .append, args := #[qt 31, qt 32], argTypes := #[22, 22] }) 22,
 qsg nb 6 33 22]))) (
   .ops [qbo nb 34 .add 3 27 (qi 1) 3 3,
 qmv nb 27 34 3]))))))) (
 .seq (
 .ops [qmv nb 35 6 22,
 qsg nb 2 35 22]) (
 .ret))))))
@[go_sem] theorem rs123 : Go.Proofs.Try.f123.results.toList = [.tmp 2] := by kernel_rfl
theorem k123 (nb : Nat) : sk nb Go.Proofs.Try.f123.ntmps (Go.Proofs.Try.f123.body.getD .skip) = some (c123 nb) := by kernel_rfl
theorem w123 {a : List Arg} {r : RV} (h : W Q (c123 0) [] ⟨ρ0 (a.map fun a => a.m.lv), h0⟩ (retG Q Go.Proofs.Try.f123.results.toList (retF r))) (l : Nat.ble a.length Go.Proofs.Try.f123.ntmps = true := by kernel_rfl) : Fn Q 123 a r := fn_intro Go.Proofs.Try.func123 rfl (by kernel_rfl) mix (k123 0) (Nat.le_of_ble_eq_true l) h
noncomputable def c125 (nb : Nat) : SC :=
 .seq (
 .ops [sop nb 2 (.assign (.const (.slice none 0 0))) 22]) (
 .seq (
 .ops [qmv nb 3 0 22,
 qmv nb 4 0 22,
 qln nb 5 #[qt 4] #[22] 3,
 qmv nb 6 0 22,
 qln nb 7 #[qt 6] #[22] 3,
 sop nb 8 (.slice 22 (qt 3) none (some (qt 5)) (some (qt 7))) 22,
 qsg nb 2 8 22]) (
 .ret))
@[go_sem] theorem rs125 : Go.Proofs.Try.f125.results.toList = [.tmp 2] := by kernel_rfl
theorem k125 (nb : Nat) : sk nb Go.Proofs.Try.f125.ntmps (Go.Proofs.Try.f125.body.getD .skip) = some (c125 nb) := by kernel_rfl
theorem w125 {a : List Arg} {r : RV} (h : W Q (c125 0) [] ⟨ρ0 (a.map fun a => a.m.lv), h0⟩ (retG Q Go.Proofs.Try.f125.results.toList (retF r))) (l : Nat.ble a.length Go.Proofs.Try.f125.ntmps = true := by kernel_rfl) : Fn Q 125 a r := fn_intro Go.Proofs.Try.func125 rfl (by kernel_rfl) mix (k125 0) (Nat.le_of_ble_eq_true l) h
noncomputable def c126 (nb : Nat) : SC :=
 .seq (
 .ops [sop nb 4 (.assign (qi 0)) 3]) (
 .seq (
 .seq (
 .ops [qmv nb 6 0 22,
 qln nb 7 #[qt 6] #[22] 3,
 sop nb 8 (.move (qi 0)) 3]) (
 .block 0 (
  .loop (
   .seq (
   .ops [qbo nb 9 .lss 3 8 (qt 7) 3 0]) (
   .seq (
   .cond (qt 9) (
    .skip) (
    .exit 0)) (
   .seq (
   .block 1 (
    .seq (
    .ops [qmv nb 10 8 3,
 qsg nb 5 10 3]) (
    .seq (
    .ops [qmv nb 11 1 91,
 qmv nb 12 0 22,
 qmv nb 13 5 3,
 qix nb 14 22 12 13 0,
 qld nb 15 3 14,
 sop nb 16 (.call { callee := .value (qt 11), args := #[qt 15], argTypes := #[3] }) 4]) (
    .cond (qt 16) (
     .seq (
     .ops [qmv nb 17 5 3,
 qsg nb 4 17 3]) (
     .ret)) (
     .skip))))) (
   .ops [qbo nb 18 .add 3 8 (qi 1) 3 3,
 qmv nb 8 18 3]))))))) (
 .seq (
 .ops [sop nb 4 (.assign (qi (-1))) 3]) (
 .ret)))
@[go_sem] theorem rs126 : Go.Proofs.Try.f126.results.toList = [.tmp 4] := by kernel_rfl
theorem k126 (nb : Nat) : sk nb Go.Proofs.Try.f126.ntmps (Go.Proofs.Try.f126.body.getD .skip) = some (c126 nb) := by kernel_rfl
theorem w126 {a : List Arg} {r : RV} (h : W Q (c126 0) [] ⟨ρ0 (a.map fun a => a.m.lv), h0⟩ (retG Q Go.Proofs.Try.f126.results.toList (retF r))) (l : Nat.ble a.length Go.Proofs.Try.f126.ntmps = true := by kernel_rfl) : Fn Q 126 a r := fn_intro Go.Proofs.Try.func126 rfl (by kernel_rfl) mix (k126 0) (Nat.le_of_ble_eq_true l) h
noncomputable def c127 (nb : Nat) : SC :=
 .seq (
 .ops [sop nb 2 (.assign (.const (.bool false))) 4]) (
 .seq (
 .ops [qmv nb 3 0 3,
 qmv nb 4 0 3,
 qbo nb 5 .neq 3 3 (qt 4) 3 4,
 qsg nb 2 5 4]) (
 .ret))
@[go_sem] theorem rs127 : Go.Proofs.Try.f127.results.toList = [.tmp 2] := by kernel_rfl
theorem k127 (nb : Nat) : sk nb Go.Proofs.Try.f127.ntmps (Go.Proofs.Try.f127.body.getD .skip) = some (c127 nb) := by kernel_rfl
theorem w127 {a : List Arg} {r : RV} (h : W Q (c127 0) [] ⟨ρ0 (a.map fun a => a.m.lv), h0⟩ (retG Q Go.Proofs.Try.f127.results.toList (retF r))) (l : Nat.ble a.length Go.Proofs.Try.f127.ntmps = true := by kernel_rfl) : Fn Q 127 a r := fn_intro Go.Proofs.Try.func127 rfl (by kernel_rfl) mix (k127 0) (Nat.le_of_ble_eq_true l) h
noncomputable def c128 (nb : Nat) : SC :=
 .seq (
 .ops [sop nb 4 (.assign (qi 0)) 3]) (
 .seq (
 .seq (
 .ops [qmv nb 6 0 22,
 qln nb 7 #[qt 6] #[22] 3,
 sop nb 8 (.move (qi 0)) 3]) (
 .block 0 (
  .loop (
   .seq (
   .ops [qbo nb 9 .lss 3 8 (qt 7) 3 0]) (
   .seq (
   .cond (qt 9) (
    .skip) (
    .exit 0)) (
   .seq (
   .block 1 (
    .seq (
    .ops [qmv nb 10 8 3,
 qsg nb 5 10 3]) (
    .seq (
    .ops [qmv nb 11 1 3,
 qmv nb 12 0 22,
 qmv nb 13 5 3,
 qix nb 14 22 12 13 0,
 qld nb 15 3 14,
 qbo nb 16 .eql 3 11 (qt 15) 3 4]) (
    .cond (qt 16) (
     .seq (
     .ops [qmv nb 17 5 3,
 qsg nb 4 17 3]) (
     .ret)) (
     .skip))))) (
   .ops [qbo nb 18 .add 3 8 (qi 1) 3 3,
 qmv nb 8 18 3]))))))) (
 .seq (
 .ops [sop nb 4 (.assign (qi (-1))) 3]) (
 .ret)))
@[go_sem] theorem rs128 : Go.Proofs.Try.f128.results.toList = [.tmp 4] := by kernel_rfl
theorem k128 (nb : Nat) : sk nb Go.Proofs.Try.f128.ntmps (Go.Proofs.Try.f128.body.getD .skip) = some (c128 nb) := by kernel_rfl
theorem w128 {a : List Arg} {r : RV} (h : W Q (c128 0) [] ⟨ρ0 (a.map fun a => a.m.lv), h0⟩ (retG Q Go.Proofs.Try.f128.results.toList (retF r))) (l : Nat.ble a.length Go.Proofs.Try.f128.ntmps = true := by kernel_rfl) : Fn Q 128 a r := fn_intro Go.Proofs.Try.func128 rfl (by kernel_rfl) mix (k128 0) (Nat.le_of_ble_eq_true l) h
noncomputable def c129 (nb : Nat) : SC :=
 .seq (
 .ops [sop nb 3 (.box 127 (qt 0)) 0]) (
 .seq (
 .seq (
 .ops [qld nb 6 3 1,
 qbo nb 7 .eql 3 6 (qi 0) 3 4]) (
 .cond (qt 7) (
  .seq (
  .ops [qld nb 8 127 3,
 sop nb 9 (.call { callee := .value (qt 8), args := #[(.const (.slice none 0 0))], argTypes := #[22] }) 4]) (
  .ret)) (
  .skip))) (
 .seq (
 .ops [qld nb 10 22 2,
 qln nb 11 #[qt 10] #[22] 3,
 sop nb 12 (.move (qi 0)) 3]) (
 .block 0 (
  .loop (
   .seq (
   .ops [qbo nb 13 .lss 3 12 (qt 11) 3 0]) (
   .seq (
   .cond (qt 13) (
    .skip) (
    .exit 0)) (
   .seq (
   .block 1 (
    .seq (
    .ops [qmv nb 14 12 3,
 sop nb 4 (.alloc 3) 0,
 nop (.store 3 (qt 4) (qt 14)) 0]) (
    .seq (
    .ops [qld nb 15 3 1,
 qbo nb 16 .sub 3 15 (qi 1) 3 3,
 qld nb 17 22 2,
 qld nb 18 3 4,
 qbo nb 19 .add 3 18 (qi 1) 3 3,
 sop nb 20 (.slice 22 (qt 17) (some (qt 19)) none none) 22,
 qcl nb 21 117 #[qt 16, qt 20] #[3, 22] 152]) (
    .block 2 (
     .rangeF (qt 21) [22] (
      .ops [qsg nb 5 22 22]) (
      .block 3 (
       .seq (
       .opsD [qld nb 23 127 3,
 qld nb 24 22 2,
 qld nb 25 3 4,
 qld nb 26 3 4,
 qbo nb 27 .add 3 26 (qi 1) 3 3,
 sop nb 28 (.slice 22 (qt 24) (some (qt 25)) (some (qt 27)) none) 22,
 qmv nb 29 5 22,
 sop nb 30 (.buildSlice 56 2 #[(0, qt 28), (1, qt 29)]) 56,
 qcl nb 31 123 #[qt 30] #[56] 22,
 sop nb 32 (.call { callee := .value (qt 23), args := #[qt 31], argTypes := #[22] }) 4,
 sop nb 33 (.unOp .not 4 (qt 32)) 4] [(0, 7), (0, 8)]) (
       .cond (qt 33) (
        .ret) (
        .skip))))))))) (
   .ops [qbo nb 34 .add 3 12 (qi 1) 3 3,
 qmv nb 12 34 3]))))))))
@[go_sem] theorem rs129 : Go.Proofs.Try.f129.results.toList = [] := by kernel_rfl
theorem k129 (nb : Nat) : sk nb Go.Proofs.Try.f129.ntmps (Go.Proofs.Try.f129.body.getD .skip) = some (c129 nb) := by kernel_rfl
noncomputable def c130 (nb : Nat) : SC :=
 .seq (
 .ops [sop nb 4 (.assign (.const (.slice none 0 0))) 22]) (
 .seq (
 .seq (
 .ops [qmv nb 5 1 3,
 qbo nb 6 .lss 3 5 (qi 0) 3 4]) (
 .cond (qt 6) (
  .ops [sop nb 7 (.makeInterface 9 (.const (.string { data := #[99, 97, 110, 110, 111, 116, 32, 98, 101, 32, 110, 101, 103, 97, 116, 105, 118, 101] }))) 20,
 nop (.panic (qt 7)) 0]) (
  .skip))) (
 .seq (
 .seq (
 .ops [qmv nb 8 1 3,
 qmv nb 9 0 22,
 sop nb 10 (.call { callee := .builtin .cap, args := #[qt 9], argTypes := #[22] }) 3,
 qmv nb 11 0 22,
 qln nb 12 #[qt 11] #[22] 3,
 qbo nb 13 .sub 3 10 (qt 12) 3 3,
 qbo nb 14 .sub 3 8 (qt 13) 3 3,
 qsg nb 1 14 3]) (
 .seq (
 .ops [qmv nb 15 1 3,
 qbo nb 16 .gtr 3 15 (qi 0) 3 4]) (
 .cond (qt 16) (
  .ops [qmv nb 17 0 22,
 qmv nb 18 0 22,
 sop nb 19 (.call { callee := .builtin .cap, args := #[qt 18], argTypes := #[22] }) 3,
 sop nb 20 (.slice 22 (qt 17) none (some (qt 19)) none) 22,
 qmv nb 21 1 3,
 sop nb 22 (.call { callee := .builtin .append, args := #[qt 20, qt 21], argTypes := #[22, 3] }) 22,
 qmv nb 23 0 22,
 qln nb 24 #[qt 23] #[22] 3,
 sop nb 25 (.slice 22 (qt 22) none (some (qt 24)) none) 22,
 qsg nb 0 25 22]) (
  .skip)))) (
 .seq (
 .ops [qmv nb 26 0 22,
 qsg nb 4 26 22]) (
 .ret))))
@[go_sem] theorem rs130 : Go.Proofs.Try.f130.results.toList = [.tmp 4] := by kernel_rfl
theorem k130 (nb : Nat) : sk nb Go.Proofs.Try.f130.ntmps (Go.Proofs.Try.f130.body.getD .skip) = some (c130 nb) := by kernel_rfl
theorem w130 {a : List Arg} {r : RV} (h : W Q (c130 0) [] ⟨ρ0 (a.map fun a => a.m.lv), h0⟩ (retG Q Go.Proofs.Try.f130.results.toList (retF r))) (l : Nat.ble a.length Go.Proofs.Try.f130.ntmps = true := by kernel_rfl) : Fn Q 130 a r := fn_intro Go.Proofs.Try.func130 rfl (by kernel_rfl) mix (k130 0) (Nat.le_of_ble_eq_true l) h
end S04

