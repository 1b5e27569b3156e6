/- A part of the proof: C04s0. -/
import Derived.Test.YtncbkgbdpaibmaaF04
set_option linter.unusedVariables false
set_option linter.unusedSimpArgs false
set_option maxRecDepth 20000
namespace S04
open Go Abs
noncomputable def c32 (nb : Nat) : SC :=
 .seq (
 .ops [sop nb 3 (.box 25 (qt 0)) 0,
 sop nb 6 (.assign (.const (.slice none 0 0))) 22,
 sop nb 7 (.assign (qi 0)) 3]) (
 .seq (
 .opsD [qmv nb 14 2 3,
 sop nb 15 (.fieldAddr 25 (qt 3) 2) 0,
 qld nb 16 3 15,
 sop nb 17 (.binOp .mul 3 (qi 2) (qt 16) 3) 3,
 qbo nb 18 .sub 3 14 (qt 17) 3 3,
 qld nb 19 25 3,
 qmv nb 20 1 22,
 qcl nb 21 78 #[qt 19, qt 20] #[25, 22] 3,
 qbo nb 22 .sub 3 18 (qt 21) 3 3,
 qsg nb 8 22 3] [(2, 7)]) (
 .seq (
 .ops [sop nb 23 (.buildSlice 22 0 #[]) 22,
 qsg nb 9 23 22]) (
 .seq (
 .seq (
 .ops [sop nb 10 (.assign (qi 0)) 3]) (
 .block 0 (
  .loop (
   .seq (
   .seq (
   .ops [qmv nb 24 9 22,
 qln nb 25 #[qt 24] #[22] 3,
 qbo nb 26 .eql 3 25 (qi 0) 3 4]) (
   .cond (qt 26) (
    .skip) (
    .exit 0))) (
   .seq (
   .block 1 (
    .seq (
    .ops [sop nb 11 (.assign (qi 0)) 3]) (
    .block 2 (
     .loop (
      .seq (
      .seq (
      .ops [qmv nb 29 11 3,
 qmv nb 30 8 3,
 qbo nb 31 .add 3 30 (qi 5) 3 3,
 qbo nb 32 .leq 3 29 (qt 31) 3 4]) (
      .cond (qt 32) (
       .skip) (
       .exit 2))) (
      .seq (
      .block 3 (
       .seq (
       .ops [qld nb 36 25 3,
 qmv nb 37 1 22,
 qmv nb 38 11 3,
 qmv nb 39 11 3,
 qmv nb 40 10 3,
 qbo nb 41 .add 3 39 (qt 40) 3 3,
 qmv nb 42 8 3,
 qcl nb 43 86 #[qt 36, qt 37, (.const (.slice none 0 0)), qt 38, qt 41, qt 42] #[25, 22, 22, 3, 3, 3] 51,
 qmv nb 35 43 51,
 qex nb 44 35 0 22,
 qex nb 45 35 1 4,
 qsg nb 12 44 22,
 qsg nb 13 45 4]) (
       .seq (
       .ops [qmv nb 46 13 4,
 qmv nb 47 46 4,
 gop nb 48 (.move (qt 9)) 22 47 true,
 gop nb 49 (.call { callee := .builtin .len, args := #[qt 48], argTypes := #[22] }) 3 47 true,
 gop nb 50 (.binOp .eql 3 (qt 49) (qi 0) 3) 4 47 true,
 gop nb 51 (.move (qt 50)) 4 47 true,
 gop nb 52 (.move (qt 12)) 22 51 false,
 gop nb 53 (.move (qt 9)) 22 51 false,
 gop nb 54 (.call { callee := .value (.func 87), args := #[qt 52, qt 53], argTypes := #[22, 22] }) 4 51 false,
 gop nb 55 (.pick (qt 51) (.const (.bool true)) (qt 54)) 4 47 true,
 sop nb 56 (.pick (qt 47) (qt 55) (.const (.bool false))) 4]) (
       .cond (qt 56) (
        .ops [qmv nb 57 12 22,
 qsg nb 9 57 22]) (
        .skip))))) (
      .ops [qmv nb 33 11 3,
 qbo nb 34 .add 3 33 (qi 1) 3 3,
 qsg nb 11 34 3]))))))) (
   .ops [qmv nb 27 10 3,
 qbo nb 28 .add 3 27 (qi 1) 3 3,
 qsg nb 10 28 3])))))) (
 .seq (
 .ops [qmv nb 58 9 22,
 qld nb 59 25 3,
 qmv nb 60 1 22,
 qmv nb 61 9 22,
 qcl nb 62 28 #[qt 59, qt 60, qt 61] #[25, 22, 22] 22,
 qcl nb 63 29 #[qt 62] #[22] 3,
 qsg nb 6 58 22,
 qsg nb 7 63 3]) (
 .ret)))))
noncomputable def c35 (nb : Nat) : SC :=
 .seq (
 .ops [sop nb 3 (.box 25 (qt 0)) 0,
 sop nb 6 (.assign (.const (.slice none 0 0))) 22,
 sop nb 7 (.assign (.const (.bool false))) 4]) (
 .seq (
 .ops [sop nb 12 (.buildSlice 22 0 #[]) 22,
 qsg nb 8 12 22,
 sop nb 9 (.assign (.const (.bool false))) 4]) (
 .seq (
 .seq (
 .ops [sop nb 10 (.assign (qi 0)) 3]) (
 .block 0 (
  .loop (
   .seq (
   .seq (
   .ops [qmv nb 13 10 3,
 qmv nb 14 1 22,
 qln nb 15 #[qt 14] #[22] 3,
 sop nb 16 (.convert 3 99 (qt 15)) 99,
 sop nb 17 (.binOp .shl 3 (qi 1) (qt 16) 99) 3,
 qbo nb 18 .sub 3 17 (qi 1) 3 3,
 qbo nb 19 .lss 3 13 (qt 18) 3 4]) (
   .cond (qt 19) (
    .skip) (
    .exit 0))) (
   .seq (
   .block 1 (
    .seq (
    .ops [qmv nb 22 10 3,
 qcl nb 23 91 #[qt 22] #[3] 22,
 qsg nb 11 23 22]) (
    .seq (
    .opsD [qmv nb 24 9 4,
 sop nb 25 (.unOp .not 4 (qt 24)) 4,
 qmv nb 26 25 4,
 gop nb 27 (.move (qt 11)) 22 26 false,
 gop nb 28 (.move (qt 8)) 22 26 false,
 gop nb 29 (.call { callee := .value (.func 92), args := #[qt 27, qt 28], argTypes := #[22, 22] }) 4 26 false,
 sop nb 30 (.pick (qt 26) (.const (.bool true)) (qt 29)) 4,
 qmv nb 31 30 4,
 gop nb 32 (.load 25 (qt 3)) 25 31 true,
 gop nb 33 (.move (qt 1)) 22 31 true,
 gop nb 34 (.move (qt 11)) 22 31 true,
 gop nb 35 (.call { callee := .value (.func 93), args := #[qt 33, qt 34], argTypes := #[22, 22] }) 22 31 true,
 gop nb 36 (.call { callee := .value (.func 26), args := #[qt 32, qt 35], argTypes := #[25, 22] }) 3 31 true,
 gop nb 37 (.move (qt 2)) 3 31 true,
 gop nb 38 (.binOp .leq 3 (qt 36) (qt 37) 3) 4 31 true,
 sop nb 39 (.pick (qt 31) (qt 38) (.const (.bool false))) 4] [(8, 11)]) (
    .cond (qt 39) (
     .ops [qmv nb 40 11 22,
 qsg nb 8 40 22,
 sop nb 9 (.assign (.const (.bool true))) 4]) (
     .skip))))) (
   .ops [qmv nb 20 10 3,
 qbo nb 21 .add 3 20 (qi 1) 3 3,
 qsg nb 10 21 3])))))) (
 .seq (
 .ops [qmv nb 41 8 22,
 qmv nb 42 9 4,
 qsg nb 6 41 22,
 qsg nb 7 42 4]) (
 .ret))))
noncomputable def c37 (nb : Nat) : SC :=
 .seq (
 .ops [sop nb 4 (.box 25 (qt 0)) 0,
 sop nb 8 (.assign (qi 0)) 3]) (
 .seq (
 .ops [sop nb 9 (.assign (qi 0)) 3]) (
 .seq (
 .seq (
 .ops [sop nb 10 (.assign (qi 1)) 3]) (
 .block 0 (
  .loop (
   .seq (
   .seq (
   .ops [qmv nb 13 10 3,
 qbo nb 14 .leq 3 13 (qi 30) 3 4]) (
   .cond (qt 14) (
    .skip) (
    .exit 0))) (
   .seq (
   .block 1 (
    .seq (
    .opsD [sop nb 17 (.buildSlice 22 0 #[]) 22,
 sop nb 18 (.fieldAddr 25 (qt 4) 0) 0,
 qld nb 19 22 18,
 sop nb 20 (.call { callee := .builtin .append, args := #[qt 17, qt 19], argTypes := #[22, 22] }) 22,
 qmv nb 21 10 3,
 sop nb 22 (.buildSlice 22 1 #[(0, qt 21)]) 22,
 sop nb 23 (.call { callee := .builtin .append, args := #[qt 20, qt 22], argTypes := #[22, 22] }) 22,
 sop nb 24 (.fieldAddr 25 (qt 4) 1) 0,
 qld nb 25 23 24,
 sop nb 26 (.fieldAddr 25 (qt 4) 2) 0,
 qld nb 27 3 26,
 sop nb 28 (.fieldAddr 25 (qt 4) 3) 0,
 qld nb 29 3 28,
 sop nb 30 (.build 25 #[(0, qt 23), (1, qt 25), (2, qt 27), (3, qt 29)]) 25,
 sop nb 11 (.alloc 25) 0,
 nop (.store 25 (qt 11) (qt 30)) 0] [(0, 2), (0, 5), (2, 5), (3, 5), (0, 8), (3, 8), (5, 8), (6, 8), (0, 10), (3, 10), (5, 10), (6, 10), (0, 12), (3, 12), (5, 12), (6, 12), (0, 14), (2, 14), (3, 14), (5, 14), (6, 14), (8, 14), (10, 14), (12, 14)]) (
    .seq (
    .ops [sop nb 31 (.buildSlice 22 0 #[]) 22,
 qmv nb 32 1 22,
 sop nb 33 (.call { callee := .builtin .append, args := #[qt 31, qt 32], argTypes := #[22, 22] }) 22,
 qsg nb 12 33 22]) (
    .seq (
    .ops [qmv nb 34 12 22,
 qmv nb 35 2 3,
 sop nb 36 (.fieldAddr 25 (qt 4) 0) 0,
 qld nb 37 22 36,
 qln nb 38 #[qt 37] #[22] 3,
 qix nb 39 22 34 35 0,
 nop (.store 3 (qt 39) (qt 38)) 0]) (
    .seq (
    .ops [qld nb 40 25 11,
 qmv nb 41 12 22,
 qcl nb 42 26 #[qt 40, qt 41] #[25, 22] 3,
 qmv nb 43 3 3,
 qbo nb 44 .leq 3 42 (qt 43) 3 4]) (
    .cond (qt 44) (
     .ops [qmv nb 45 10 3,
 qsg nb 9 45 3]) (
     .skip))))))) (
   .ops [qmv nb 15 10 3,
 qbo nb 16 .add 3 15 (qi 1) 3 3,
 qsg nb 10 16 3])))))) (
 .seq (
 .ops [qmv nb 46 9 3,
 qsg nb 8 46 3]) (
 .ret))))
noncomputable def c42 (nb : Nat) : SC :=
 .seq (
 .ops [sop nb 3 (.box 25 (qt 0)) 0,
 sop nb 6 (.assign (.const (.slice none 0 0))) 22,
 sop nb 7 (.assign (qi 0)) 3]) (
 .seq (
 .ops [sop nb 14 (.buildSlice 22 0 #[]) 22,
 qsg nb 8 14 22,
 sop nb 9 (.assign (qi (-1))) 3]) (
 .seq (
 .seq (
 .ops [sop nb 10 (.assign (qi 0)) 3]) (
 .block 0 (
  .loop (
   .seq (
   .seq (
   .ops [qmv nb 15 10 3,
 qmv nb 16 1 56,
 qln nb 17 #[qt 16] #[56] 3,
 qbo nb 18 .sub 3 17 (qi 1) 3 3,
 sop nb 19 (.convert 3 99 (qt 18)) 99,
 sop nb 20 (.binOp .shl 3 (qi 1) (qt 19) 99) 3,
 qbo nb 21 .lss 3 15 (qt 20) 3 4]) (
   .cond (qt 21) (
    .skip) (
    .exit 0))) (
   .seq (
   .block 1 (
    .seq (
    .ops [sop nb 24 (.buildSlice 22 1 #[(0, qi 0)]) 22,
 qsg nb 11 24 22]) (
    .seq (
    .seq (
    .ops [sop nb 12 (.assign (qi 1)) 3]) (
    .block 2 (
     .loop (
      .seq (
      .seq (
      .ops [qmv nb 25 12 3,
 qmv nb 26 1 56,
 qln nb 27 #[qt 26] #[56] 3,
 qbo nb 28 .lss 3 25 (qt 27) 3 4]) (
      .cond (qt 28) (
       .skip) (
       .exit 2))) (
      .seq (
      .block 3 (
       .seq (
       .ops [qmv nb 31 10 3,
 qmv nb 32 12 3,
 qbo nb 33 .sub 3 32 (qi 1) 3 3,
 sop nb 34 (.convert 3 99 (qt 33)) 99,
 qbo nb 35 .shr 3 31 (qt 34) 99 3,
 qbo nb 36 .and 3 35 (qi 1) 3 3,
 qbo nb 37 .eql 3 36 (qi 1) 3 4]) (
       .cond (qt 37) (
        .ops [qmv nb 38 11 22,
 qmv nb 39 12 3,
 sop nb 40 (.buildSlice 22 1 #[(0, qt 39)]) 22,
 sop nb 41 (.call { callee := .builtin .append, args := #[qt 38, qt 40], argTypes := #[22, 22] }) 22,
 qsg nb 11 41 22]) (
        .skip)))) (
      .ops [qmv nb 29 12 3,
 qbo nb 30 .add 3 29 (qi 1) 3 3,
 qsg nb 12 30 3])))))) (
    .seq (
    .ops [qld nb 42 25 3,
 qmv nb 43 1 56,
 qmv nb 44 11 22,
 qmv nb 45 2 3,
 qcl nb 46 97 #[qt 42, qt 43, qt 44, qt 45] #[25, 56, 22, 3] 3,
 qsg nb 13 46 3]) (
    .seq (
    .ops [qmv nb 47 13 3,
 qbo nb 48 .geq 3 47 (qi 0) 3 4,
 qmv nb 49 48 4,
 gop nb 50 (.move (qt 9)) 3 49 true,
 gop nb 51 (.binOp .lss 3 (qt 50) (qi 0) 3) 4 49 true,
 gop nb 52 (.move (qt 51)) 4 49 true,
 gop nb 53 (.move (qt 11)) 22 52 false,
 gop nb 54 (.call { callee := .builtin .len, args := #[qt 53], argTypes := #[22] }) 3 52 false,
 gop nb 55 (.move (qt 8)) 22 52 false,
 gop nb 56 (.call { callee := .builtin .len, args := #[qt 55], argTypes := #[22] }) 3 52 false,
 gop nb 57 (.binOp .lss 3 (qt 54) (qt 56) 3) 4 52 false,
 gop nb 58 (.pick (qt 52) (.const (.bool true)) (qt 57)) 4 49 true,
 gop nb 59 (.move (qt 58)) 4 49 true,
 gop nb 60 (.move (qt 11)) 22 59 false,
 gop nb 61 (.call { callee := .builtin .len, args := #[qt 60], argTypes := #[22] }) 3 59 false,
 gop nb 62 (.move (qt 8)) 22 59 false,
 gop nb 63 (.call { callee := .builtin .len, args := #[qt 62], argTypes := #[22] }) 3 59 false,
 gop nb 64 (.binOp .eql 3 (qt 61) (qt 63) 3) 4 59 false,
 gop nb 65 (.move (qt 64)) 4 59 false,
 gop nb 66 (.move (qt 13)) 3 65 true,
 gop nb 67 (.move (qt 9)) 3 65 true,
 gop nb 68 (.binOp .lss 3 (qt 66) (qt 67) 3) 4 65 true,
 gop nb 69 (.move (qt 68)) 4 65 true,
 gop nb 70 (.move (qt 13)) 3 69 false,
 gop nb 71 (.move (qt 9)) 3 69 false,
 gop nb 72 (.binOp .eql 3 (qt 70) (qt 71) 3) 4 69 false,
 gop nb 73 (.move (qt 72)) 4 69 false,
 gop nb 74 (.move (qt 11)) 22 73 true,
 gop nb 75 (.move (qt 8)) 22 73 true,
 gop nb 76 (.call { callee := .value (.func 87), args := #[qt 74, qt 75], argTypes := #[22, 22] }) 4 73 true,
 gop nb 77 (.pick (qt 73) (qt 76) (.const (.bool false))) 4 69 false,
 gop nb 78 (.pick (qt 69) (.const (.bool true)) (qt 77)) 4 65 true,
 gop nb 79 (.pick (qt 65) (qt 78) (.const (.bool false))) 4 59 false,
 gop nb 80 (.pick (qt 59) (.const (.bool true)) (qt 79)) 4 49 true,
 sop nb 81 (.pick (qt 49) (qt 80) (.const (.bool false))) 4]) (
    .cond (qt 81) (
     .ops [qmv nb 82 11 22,
 qmv nb 83 13 3,
 qsg nb 8 82 22,
 qsg nb 9 83 3]) (
     .skip))))))) (
   .ops [qmv nb 22 10 3,
 qbo nb 23 .add 3 22 (qi 1) 3 3,
 qsg nb 10 23 3])))))) (
 .seq (
 .ops [qmv nb 84 8 22,
 qmv nb 85 9 3,
 qsg nb 6 84 22,
 qsg nb 7 85 3]) (
 .ret))))
noncomputable def c44 (nb : Nat) : SC :=
 .seq (
 .ops [sop nb 3 (.box 25 (qt 0)) 0,
 sop nb 6 (.assign (.const (.slice none 0 0))) 22,
 sop nb 7 (.assign (.const (.bool false))) 4]) (
 .seq (
 .ops [qld nb 11 25 3,
 qmv nb 12 1 56,
 qmv nb 13 2 22,
 sop nb 14 (.buildSlice 22 0 #[]) 22,
 qcl nb 15 99 #[qt 11, qt 12, qt 13, qt 14] #[25, 56, 22, 22] 56,
 qsg nb 8 15 56]) (
 .seq (
 .seq (
 .ops [qmv nb 16 8 56,
 qln nb 17 #[qt 16] #[56] 3,
 qbo nb 18 .eql 3 17 (qi 0) 3 4]) (
 .cond (qt 18) (
  .seq (
  .ops [sop nb 6 (.assign (.const (.slice none 0 0))) 22,
 sop nb 7 (.assign (.const (.bool false))) 4]) (
  .ret)) (
  .skip))) (
 .seq (
 .ops [qmv nb 19 8 56,
 sop nb 20 (.indexAddr 56 (qt 19) (qi 0)) 0,
 qld nb 21 22 20,
 qsg nb 9 21 22]) (
 .seq (
 .seq (
 .ops [sop nb 10 (.assign (qi 1)) 3]) (
 .block 0 (
  .loop (
   .seq (
   .seq (
   .ops [qmv nb 22 10 3,
 qmv nb 23 8 56,
 qln nb 24 #[qt 23] #[56] 3,
 qbo nb 25 .lss 3 22 (qt 24) 3 4]) (
   .cond (qt 25) (
    .skip) (
    .exit 0))) (
   .seq (
   .block 1 (
    .seq (
    .ops [qmv nb 28 2 22,
 qmv nb 29 8 56,
 qmv nb 30 10 3,
 qix nb 31 56 29 30 0,
 qld nb 32 22 31,
 qcl nb 33 100 #[qt 28, qt 32] #[22, 22] 3,
 qmv nb 34 2 22,
 qmv nb 35 9 22,
 qcl nb 36 100 #[qt 34, qt 35] #[22, 22] 3,
 qbo nb 37 .lss 3 33 (qt 36) 3 4]) (
    .cond (qt 37) (
     .ops [qmv nb 38 8 56,
 qmv nb 39 10 3,
 qix nb 40 56 38 39 0,
 qld nb 41 22 40,
 qsg nb 9 41 22]) (
     .skip)))) (
   .ops [qmv nb 26 10 3,
 qbo nb 27 .add 3 26 (qi 1) 3 3,
 qsg nb 10 27 3])))))) (
 .seq (
 .ops [qmv nb 42 9 22,
 qsg nb 6 42 22,
 sop nb 7 (.assign (.const (.bool true))) 4]) (
 .ret))))))
noncomputable def c46 (nb : Nat) : SC :=
 .seq (
 .ops [sop nb 4 (.box 25 (qt 0)) 0,
 sop nb 8 (.assign (.const (.slice none 0 0))) 22]) (
 .seq (
 .ops [qld nb 14 25 4,
 qmv nb 15 1 22,
 qmv nb 16 2 22,
 qcl nb 17 28 #[qt 14, qt 15, qt 16] #[25, 22, 22] 22,
 qsg nb 9 17 22]) (
 .seq (
 .ops [sop nb 18 (.buildSlice 22 0 #[]) 22,
 qsg nb 10 18 22,
 sop nb 11 (.assign (.const (.bool false))) 4]) (
 .seq (
 .seq (
 .ops [sop nb 12 (.assign (qi 0)) 3]) (
 .block 0 (
  .loop (
   .seq (
   .seq (
   .ops [qmv nb 19 12 3,
 qmv nb 20 2 22,
 qln nb 21 #[qt 20] #[22] 3,
 sop nb 22 (.convert 3 99 (qt 21)) 99,
 sop nb 23 (.binOp .shl 3 (qi 1) (qt 22) 99) 3,
 qbo nb 24 .lss 3 19 (qt 23) 3 4]) (
   .cond (qt 24) (
    .skip) (
    .exit 0))) (
   .seq (
   .block 1 (
    .seq (
    .ops [qmv nb 27 12 3,
 qcl nb 28 91 #[qt 27] #[3] 22,
 qsg nb 13 28 22]) (
    .seq (
    .ops [qmv nb 29 11 4,
 sop nb 30 (.unOp .not 4 (qt 29)) 4,
 qmv nb 31 30 4,
 gop nb 32 (.move (qt 13)) 22 31 false,
 gop nb 33 (.move (qt 10)) 22 31 false,
 gop nb 34 (.call { callee := .value (.func 92), args := #[qt 32, qt 33], argTypes := #[22, 22] }) 4 31 false,
 sop nb 35 (.pick (qt 31) (.const (.bool true)) (qt 34)) 4,
 qmv nb 36 35 4,
 gop nb 37 (.move (qt 9)) 22 36 true,
 gop nb 38 (.move (qt 13)) 22 36 true,
 gop nb 39 (.call { callee := .value (.func 93), args := #[qt 37, qt 38], argTypes := #[22, 22] }) 22 36 true,
 gop nb 40 (.call { callee := .value (.func 29), args := #[qt 39], argTypes := #[22] }) 3 36 true,
 gop nb 41 (.move (qt 3)) 3 36 true,
 gop nb 42 (.binOp .leq 3 (qt 40) (qt 41) 3) 4 36 true,
 sop nb 43 (.pick (qt 36) (qt 42) (.const (.bool false))) 4]) (
    .cond (qt 43) (
     .ops [qmv nb 44 13 22,
 qsg nb 10 44 22,
 sop nb 11 (.assign (.const (.bool true))) 4]) (
     .skip))))) (
   .ops [qmv nb 25 12 3,
 qbo nb 26 .add 3 25 (qi 1) 3 3,
 qsg nb 12 26 3])))))) (
 .seq (
 .ops [qmv nb 45 10 22,
 qsg nb 8 45 22]) (
 .ret)))))
noncomputable def c48 (nb : Nat) : SC :=
 .seq (
 .ops [sop nb 2 (.assign (qi 0)) 3]) (
 .seq (
 .ops [sop nb 3 (.assign (qi 0)) 3]) (
 .seq (
 .seq (
 .ops [sop nb 4 (.assign (qi 0)) 3]) (
 .block 0 (
  .loop (
   .seq (
   .seq (
   .ops [qmv nb 5 4 3,
 qmv nb 6 0 22,
 qln nb 7 #[qt 6] #[22] 3,
 qbo nb 8 .lss 3 5 (qt 7) 3 4]) (
   .cond (qt 8) (
    .skip) (
    .exit 0))) (
   .seq (
   .block 1 (
    .seq (
    .ops [qmv nb 11 0 22,
 qmv nb 12 4 3,
 qix nb 13 22 11 12 0,
 qld nb 14 3 13,
 qbo nb 15 .eql 3 14 (qi (-1)) 3 4]) (
    .cond (qt 15) (
     .ops [qmv nb 16 3 3,
 qbo nb 17 .add 3 16 (qi 1) 3 3,
 qsg nb 3 17 3]) (
     .skip)))) (
   .ops [qmv nb 9 4 3,
 qbo nb 10 .add 3 9 (qi 1) 3 3,
 qsg nb 4 10 3])))))) (
 .seq (
 .ops [qmv nb 18 3 3,
 qsg nb 2 18 3]) (
 .ret))))
@[go_sem] theorem rs48 : Go.Proofs.Try.f48.results.toList = [.tmp 2] := by kernel_rfl
theorem k48 (nb : Nat) : sk nb Go.Proofs.Try.f48.ntmps (Go.Proofs.Try.f48.body.getD .skip) = some (c48 nb) := by kernel_rfl
theorem w48 {a : List Arg} {r : RV} (h : W Q (c48 0) [] ⟨ρ0 (a.map fun a => a.m.lv), h0⟩ (retG Q Go.Proofs.Try.f48.results.toList (retF r))) (l : Nat.ble a.length Go.Proofs.Try.f48.ntmps = true := by kernel_rfl) : Fn Q 48 a r := fn_intro Go.Proofs.Try.func48 rfl (by kernel_rfl) mix (k48 0) (Nat.le_of_ble_eq_true l) h
noncomputable def c49 (nb : Nat) : SC :=
 .seq (
 .ops [sop nb 4 (.box 25 (qt 0)) 0,
 sop nb 7 (.box 71 (qt 3)) 0,
 sop nb 8 (.assign (.const (.slice none 0 0))) 56,
 sop nb 9 (.assign (.const (.bool false))) 4]) (
 .seq (
 .ops [qld nb 18 25 4,
 qmv nb 19 1 22,
 qcl nb 20 106 #[qt 18, qt 19] #[25, 22] 56,
 sop nb 21 (.buildSlice 56 0 #[]) 56,
 qsg nb 10 20 56,
 qsg nb 11 21 56,
 sop nb 12 (.assign (.const (.bool false))) 4]) (
 .seq (
 .seq (
 .ops [sop nb 13 (.assign (qi 0)) 3]) (
 .block 0 (
  .loop (
   .seq (
   .seq (
   .ops [qmv nb 22 13 3,
 qmv nb 23 1 22,
 qln nb 24 #[qt 23] #[22] 3,
 qbo nb 25 .lss 3 22 (qt 24) 3 4]) (
   .cond (qt 25) (
    .skip) (
    .exit 0))) (
   .seq (
   .block 1 (
    .seq (
    .ops [sop nb 28 (.buildSlice 22 0 #[]) 22,
 qsg nb 14 28 22]) (
    .seq (
    .seq (
    .ops [sop nb 15 (.assign (qi 0)) 3]) (
    .block 2 (
     .loop (
      .seq (
      .seq (
      .ops [qmv nb 29 15 3,
 sop nb 30 (.fieldAddr 25 (qt 4) 0) 0,
 qld nb 31 22 30,
 qln nb 32 #[qt 31] #[22] 3,
 qbo nb 33 .lss 3 29 (qt 32) 3 4]) (
      .cond (qt 33) (
       .skip) (
       .exit 2))) (
      .seq (
      .block 3 (
       .seq (
       .ops [sop nb 16 (.assign (.const (.bool false))) 4]) (
       .seq (
       .seq (
       .ops [sop nb 17 (.assign (qi 0)) 3]) (
       .block 4 (
        .loop (
         .seq (
         .seq (
         .ops [qmv nb 36 17 3,
 qmv nb 37 10 56,
 qln nb 38 #[qt 37] #[56] 3,
 qbo nb 39 .lss 3 36 (qt 38) 3 4]) (
         .cond (qt 39) (
          .skip) (
          .exit 4))) (
         .seq (
         .block 5 (
          .seq (
          .opsD [qmv nb 42 10 56,
 qmv nb 43 17 3,
 qix nb 44 56 42 43 0,
 qld nb 45 22 44,
 qmv nb 46 13 3,
 qix nb 47 22 45 46 0,
 qld nb 48 3 47,
 qmv nb 49 15 3,
 qbo nb 50 .eql 3 48 (qt 49) 3 4,
 qmv nb 51 50 4,
 gop nb 52 (.fieldAddr 25 (qt 4) 2) 0 51 true,
 gop nb 53 (.load 3 (qt 52)) 3 51 true,
 gop nb 54 (.binOp .mul 3 (qi 2) (qt 53) 3) 3 51 true,
 gop nb 55 (.load 25 (qt 4)) 25 51 true,
 gop nb 56 (.move (qt 10)) 56 51 true,
 gop nb 57 (.move (qt 17)) 3 51 true,
 gop nb 58 (.indexAddr 56 (qt 56) (qt 57)) 0 51 true,
 gop nb 59 (.load 22 (qt 58)) 22 51 true,
 gop nb 60 (.call { callee := .value (.func 78), args := #[qt 55, qt 59], argTypes := #[25, 22] }) 3 51 true,
 gop nb 61 (.binOp .add 3 (qt 54) (qt 60) 3) 3 51 true,
 gop nb 62 (.move (qt 2)) 22 51 true,
 gop nb 63 (.call { callee := .value (.func 79), args := #[qt 62], argTypes := #[22] }) 3 51 true,
 gop nb 64 (.binOp .add 3 (qt 61) (qt 63) 3) 3 51 true,
 gop nb 65 (.fieldAddr 71 (qt 7) 0) 0 51 true,
 gop nb 66 (.load 3 (qt 65)) 3 51 true,
 gop nb 67 (.fieldAddr 71 (qt 7) 1) 0 51 true,
 gop nb 68 (.load 3 (qt 67)) 3 51 true,
 gop nb 69 (.call { callee := .value (.func 36), args := #[qt 64, qt 66, qt 68], argTypes := #[3, 3, 3] }) 4 51 true,
 sop nb 70 (.pick (qt 51) (qt 69) (.const (.bool false))) 4] [(11, 18), (11, 21), (18, 24), (21, 24), (18, 26), (21, 26)]) (
          .cond (qt 70) (
           .ops [sop nb 16 (.assign (.const (.bool true))) 4,
 sop nb 12 (.assign (.const (.bool true))) 4]) (
           .skip)))) (
         .ops [qmv nb 40 17 3,
 qbo nb 41 .add 3 40 (qi 1) 3 3,
 qsg nb 17 41 3])))))) (
       .seq (
       .ops [qmv nb 71 16 4]) (
       .cond (qt 71) (
        .ops [qmv nb 72 14 22,
 qmv nb 73 15 3,
 sop nb 74 (.buildSlice 22 1 #[(0, qt 73)]) 22,
 sop nb 75 (.call { callee := .builtin .append, args := #[qt 72, qt 74], argTypes := #[22, 22] }) 22,
 qsg nb 14 75 22]) (
        .skip)))))) (
      .ops [qmv nb 34 15 3,
 qbo nb 35 .add 3 34 (qi 1) 3 3,
 qsg nb 15 35 3])))))) (
    .seq (
    .ops [qmv nb 76 1 22,
 qmv nb 77 13 3,
 qix nb 78 22 76 77 0,
 qld nb 79 3 78,
 qbo nb 80 .eql 3 79 (qi (-1)) 3 4]) (
    .cond (qt 80) (
     .ops [qmv nb 81 11 56,
 qmv nb 82 14 22,
 sop nb 83 (.buildSlice 56 1 #[(0, qt 82)]) 56,
 sop nb 84 (.call { callee := .builtin .append, args := #[qt 81, qt 83], argTypes := #[56, 56] }) 56,
 qsg nb 11 84 56]) (
     .skip)))))) (
   .ops [qmv nb 26 13 3,
 qbo nb 27 .add 3 26 (qi 1) 3 3,
 qsg nb 13 27 3])))))) (
 .seq (
 .ops [qmv nb 85 11 56,
 qmv nb 86 12 4,
 qsg nb 8 85 56,
 qsg nb 9 86 4]) (
 .ret))))
@[go_sem] theorem rs49 : Go.Proofs.Try.f49.results.toList = [.tmp 8, .tmp 9] := by kernel_rfl
theorem k49 (nb : Nat) : sk nb Go.Proofs.Try.f49.ntmps (Go.Proofs.Try.f49.body.getD .skip) = some (c49 nb) := by kernel_rfl
theorem w49 {a : List Arg} {r : RV} (h : W Q (c49 0) [] ⟨ρ0 (a.map fun a => a.m.lv), h0⟩ (retG Q Go.Proofs.Try.f49.results.toList (retF r))) (l : Nat.ble a.length Go.Proofs.Try.f49.ntmps = true := by kernel_rfl) : Fn Q 49 a r := fn_intro Go.Proofs.Try.func49 rfl (by kernel_rfl) mix (k49 0) (Nat.le_of_ble_eq_true l) h
noncomputable def c86 (nb : Nat) : SC :=
 .seq (
 .ops [sop nb 6 (.box 25 (qt 0)) 0,
 sop nb 12 (.assign (.const (.slice none 0 0))) 22,
 sop nb 13 (.assign (.const (.bool false))) 4]) (
 .seq (
 .ops [qmv nb 23 2 22,
 qln nb 24 #[qt 23] #[22] 3,
 qsg nb 14 24 3]) (
 .seq (
 .seq (
 .ops [qmv nb 25 14 3,
 qmv nb 26 1 22,
 qln nb 27 #[qt 26] #[22] 3,
 qbo nb 28 .sub 3 27 (qi 1) 3 3,
 qbo nb 29 .eql 3 25 (qt 28) 3 4]) (
 .cond (qt 29) (
  .seq (
  .ops [qmv nb 30 2 22,
 qmv nb 31 5 3,
 qbo nb 32 .eql 3 31 (qi 0) 3 4,
 qsg nb 12 30 22,
 qsg nb 13 32 4]) (
  .ret)) (
  .skip))) (
 .seq (
 .ops [sop nb 15 (.assign (qi 0)) 3,
 sop nb 16 (.assign (qi 0)) 3]) (
 .seq (
 .seq (
 .ops [qmv nb 33 14 3,
 qbo nb 34 .add 3 33 (qi 1) 3 3,
 qsg nb 17 34 3]) (
 .block 0 (
  .loop (
   .seq (
   .seq (
   .ops [qmv nb 35 17 3,
 qmv nb 36 1 22,
 qln nb 37 #[qt 36] #[22] 3,
 qbo nb 38 .sub 3 37 (qi 1) 3 3,
 qbo nb 39 .lss 3 35 (qt 38) 3 4]) (
   .cond (qt 39) (
    .skip) (
    .exit 0))) (
   .seq (
   .block 1 (
    .seq (
    .ops [qld nb 42 25 6,
 qmv nb 43 1 22,
 qmv nb 44 17 3,
 qix nb 45 22 43 44 0,
 qld nb 46 3 45,
 qmv nb 47 1 22,
 qmv nb 48 17 3,
 qbo nb 49 .add 3 48 (qi 1) 3 3,
 qix nb 50 22 47 49 0,
 qld nb 51 3 50,
 qcl nb 52 81 #[qt 42, qt 46, qt 51] #[25, 3, 3] 3,
 qsg nb 18 52 3]) (
    .seq (
    .ops [qmv nb 53 15 3,
 qmv nb 54 4 3,
 qmv nb 55 18 3,
 qbo nb 56 .sub 3 54 (qt 55) 3 3,
 qbo nb 57 .add 3 53 (qt 56) 3 3,
 qsg nb 15 57 3]) (
    .ops [qmv nb 58 16 3,
 qld nb 59 25 6,
 qmv nb 60 1 22,
 qmv nb 61 17 3,
 qix nb 62 22 60 61 0,
 qld nb 63 3 62,
 qmv nb 64 1 22,
 qmv nb 65 17 3,
 qbo nb 66 .add 3 65 (qi 1) 3 3,
 qix nb 67 22 64 66 0,
 qld nb 68 3 67,
 qcl nb 69 113 #[qt 59, qt 63, qt 68] #[25, 3, 3] 3,
 qmv nb 70 3 3,
 qmv nb 71 18 3,
 qbo nb 72 .sub 3 70 (qt 71) 3 3,
 sop nb 73 (.call { callee := .builtin .max, args := #[qt 69, qt 72], argTypes := #[3, 3] }) 3,
 qbo nb 74 .add 3 58 (qt 73) 3 3,
 qsg nb 16 74 3])))) (
   .ops [qmv nb 40 17 3,
 qbo nb 41 .add 3 40 (qi 1) 3 3,
 qsg nb 17 41 3])))))) (
 .seq (
 .ops [qld nb 75 25 6,
 qmv nb 76 1 22,
 qmv nb 77 14 3,
 qix nb 78 22 76 77 0,
 qld nb 79 3 78,
 qmv nb 80 1 22,
 qmv nb 81 14 3,
 qbo nb 82 .add 3 81 (qi 1) 3 3,
 qix nb 83 22 80 82 0,
 qld nb 84 3 83,
 qcl nb 85 81 #[qt 75, qt 79, qt 84] #[25, 3, 3] 3,
 qsg nb 19 85 3]) (
 .seq (
 .seq (
 .ops [qld nb 86 25 6,
 qmv nb 87 1 22,
 qmv nb 88 14 3,
 qix nb 89 22 87 88 0,
 qld nb 90 3 89,
 qmv nb 91 1 22,
 qmv nb 92 14 3,
 qbo nb 93 .add 3 92 (qi 1) 3 3,
 qix nb 94 22 91 93 0,
 qld nb 95 3 94,
 qcl nb 96 113 #[qt 86, qt 90, qt 95] #[25, 3, 3] 3,
 qmv nb 97 3 3,
 qmv nb 98 19 3,
 qbo nb 99 .sub 3 97 (qt 98) 3 3,
 sop nb 100 (.call { callee := .builtin .max, args := #[qt 96, qt 99], argTypes := #[3, 3] }) 3,
 qsg nb 20 100 3]) (
 .block 2 (
  .loop (
   .seq (
   .seq (
   .ops [qmv nb 101 20 3,
 qmv nb 102 4 3,
 qmv nb 103 19 3,
 qbo nb 104 .sub 3 102 (qt 103) 3 3,
 qbo nb 105 .leq 3 101 (qt 104) 3 4]) (
   .cond (qt 105) (
    .skip) (
    .exit 2))) (
   .seq (
   .block 3 (
    .seq (
    .seq (
    .ops [qmv nb 108 5 3,
 qmv nb 109 20 3,
 qbo nb 110 .sub 3 108 (qt 109) 3 3,
 qmv nb 111 15 3,
 qbo nb 112 .gtr 3 110 (qt 111) 3 4,
 qmv nb 113 112 4,
 gop nb 114 (.move (qt 5)) 3 113 false,
 gop nb 115 (.move (qt 20)) 3 113 false,
 gop nb 116 (.binOp .sub 3 (qt 114) (qt 115) 3) 3 113 false,
 gop nb 117 (.move (qt 16)) 3 113 false,
 gop nb 118 (.binOp .lss 3 (qt 116) (qt 117) 3) 4 113 false,
 sop nb 119 (.pick (qt 113) (.const (.bool true)) (qt 118)) 4]) (
    .cond (qt 119) (
     .exit 3) (
     .skip))) (
    .seq (
    .opsD [qld nb 121 25 6,
 qmv nb 122 1 22,
 sop nb 123 (.buildSlice 22 0 #[]) 22,
 qmv nb 124 2 22,
 sop nb 125 (.call { callee := .builtin .append, args := #[qt 123, qt 124], argTypes := #[22, 22] }) 22,
 qmv nb 126 20 3,
 sop nb 127 (.buildSlice 22 1 #[(0, qt 126)]) 22,
 sop nb 128 (.call { callee := .builtin .append, args := #[qt 125, qt 127], argTypes := #[22, 22] }) 22,
 qmv nb 129 3 3,
 qmv nb 130 4 3,
 qmv nb 131 5 3,
 qmv nb 132 20 3,
 qbo nb 133 .sub 3 131 (qt 132) 3 3,
 qcl nb 134 86 #[qt 121, qt 122, qt 128, qt 129, qt 130, qt 133] #[25, 22, 22, 3, 3, 3] 51,
 qmv nb 120 134 51,
 qex nb 135 120 0 22,
 qex nb 136 120 1 4,
 qsg nb 21 135 22,
 qsg nb 22 136 4] [(0, 2), (0, 4), (0, 6), (2, 6), (4, 6), (0, 7)]) (
    .seq (
    .ops [qmv nb 137 22 4]) (
    .cond (qt 137) (
     .seq (
     .ops [qmv nb 138 21 22,
 qsg nb 12 138 22,
 sop nb 13 (.assign (.const (.bool true))) 4]) (
     .ret)) (
     .skip)))))) (
   .ops [qmv nb 106 20 3,
 qbo nb 107 .add 3 106 (qi 1) 3 3,
 qsg nb 20 107 3])))))) (
 .seq (
 .ops [sop nb 12 (.assign (.const (.slice none 0 0))) 22,
 sop nb 13 (.assign (.const (.bool false))) 4]) (
 .ret))))))))
noncomputable def c87 (nb : Nat) : SC :=
 .seq (
 .ops [sop nb 4 (.assign (.const (.bool false))) 4]) (
 .seq (
 .seq (
 .ops [sop nb 5 (.assign (qi 0)) 3]) (
 .block 0 (
  .loop (
   .seq (
   .seq (
   .ops [qmv nb 6 5 3,
 qmv nb 7 0 22,
 qln nb 8 #[qt 7] #[22] 3,
 qbo nb 9 .lss 3 6 (qt 8) 3 4]) (
   .cond (qt 9) (
    .skip) (
    .exit 0))) (
   .seq (
   .block 1 (
    .seq (
    .ops [qmv nb 12 0 22,
 qmv nb 13 5 3,
 qix nb 14 22 12 13 0,
 qld nb 15 3 14,
 qmv nb 16 1 22,
 qmv nb 17 5 3,
 qix nb 18 22 16 17 0,
 qld nb 19 3 18,
 qbo nb 20 .neq 3 15 (qt 19) 3 4]) (
    .cond (qt 20) (
     .seq (
     .ops [qmv nb 21 0 22,
 qmv nb 22 5 3,
 qix nb 23 22 21 22 0,
 qld nb 24 3 23,
 qmv nb 25 1 22,
 qmv nb 26 5 3,
 qix nb 27 22 25 26 0,
 qld nb 28 3 27,
 qbo nb 29 .lss 3 24 (qt 28) 3 4,
 qsg nb 4 29 4]) (
     .ret)) (
     .skip)))) (
   .ops [qmv nb 10 5 3,
 qbo nb 11 .add 3 10 (qi 1) 3 3,
 qsg nb 5 11 3])))))) (
 .seq (
 .ops [sop nb 4 (.assign (.const (.bool false))) 4]) (
 .ret)))
noncomputable def c91 (nb : Nat) : SC :=
 .seq (
 .ops [sop nb 2 (.assign (.const (.slice none 0 0))) 22]) (
 .seq (
 .ops [sop nb 5 (.buildSlice 22 0 #[]) 22,
 qsg nb 3 5 22]) (
 .seq (
 .seq (
 .ops [sop nb 4 (.assign (qi 0)) 3]) (
 .block 0 (
  .loop (
   .seq (
   .seq (
   .ops [qmv nb 6 0 3,
 qmv nb 7 4 3,
 sop nb 8 (.convert 3 99 (qt 7)) 99,
 qbo nb 9 .shr 3 6 (qt 8) 99 3,
 qbo nb 10 .gtr 3 9 (qi 0) 3 4]) (
   .cond (qt 10) (
    .skip) (
    .exit 0))) (
   .seq (
   .block 1 (
    .seq (
    .ops [qmv nb 13 0 3,
 qmv nb 14 4 3,
 sop nb 15 (.convert 3 99 (qt 14)) 99,
 qbo nb 16 .shr 3 13 (qt 15) 99 3,
 qbo nb 17 .and 3 16 (qi 1) 3 3,
 qbo nb 18 .eql 3 17 (qi 1) 3 4]) (
    .cond (qt 18) (
     .ops [qmv nb 19 3 22,
 qmv nb 20 4 3,
 sop nb 21 (.buildSlice 22 1 #[(0, qt 20)]) 22,
 sop nb 22 (.call { callee := .builtin .append, args := #[qt 19, qt 21], argTypes := #[22, 22] }) 22,
 qsg nb 3 22 22]) (
     .skip)))) (
   .ops [qmv nb 11 4 3,
 qbo nb 12 .add 3 11 (qi 1) 3 3,
 qsg nb 4 12 3])))))) (
 .seq (
 .ops [qmv nb 23 3 22,
 qsg nb 2 23 22]) (
 .ret))))
noncomputable def c92 (nb : Nat) : SC :=
 .seq (
 .ops [sop nb 4 (.assign (.const (.bool false))) 4]) (
 .seq (
 .seq (
 .ops [qmv nb 5 0 22,
 qln nb 6 #[qt 5] #[22] 3,
 qmv nb 7 1 22,
 qln nb 8 #[qt 7] #[22] 3,
 qbo nb 9 .neq 3 6 (qt 8) 3 4]) (
 .cond (qt 9) (
  .seq (
  .ops [qmv nb 10 0 22,
 qln nb 11 #[qt 10] #[22] 3,
 qmv nb 12 1 22,
 qln nb 13 #[qt 12] #[22] 3,
 qbo nb 14 .lss 3 11 (qt 13) 3 4,
 qsg nb 4 14 4]) (
  .ret)) (
  .skip))) (
 .seq (
 .ops [qmv nb 15 0 22,
 qmv nb 16 1 22,
 qcl nb 17 87 #[qt 15, qt 16] #[22, 22] 4,
 qsg nb 4 17 4]) (
 .ret)))
noncomputable def c93 (nb : Nat) : SC :=
 .seq (
 .ops [sop nb 4 (.assign (.const (.slice none 0 0))) 22]) (
 .seq (
 .ops [sop nb 7 (.buildSlice 22 0 #[]) 22,
 qsg nb 5 7 22]) (
 .seq (
 .seq (
 .ops [sop nb 6 (.assign (qi 0)) 3]) (
 .block 0 (
  .loop (
   .seq (
   .seq (
   .ops [qmv nb 8 6 3,
 qmv nb 9 0 22,
 qln nb 10 #[qt 9] #[22] 3,
 qbo nb 11 .lss 3 8 (qt 10) 3 4]) (
   .cond (qt 11) (
    .skip) (
    .exit 0))) (
   .seq (
   .block 1 (
    .seq (
    .ops [qmv nb 14 1 22,
 qmv nb 15 6 3,
 qcl nb 16 119 #[qt 14, qt 15] #[22, 3] 4,
 sop nb 17 (.unOp .not 4 (qt 16)) 4]) (
    .cond (qt 17) (
     .ops [qmv nb 18 5 22,
 qmv nb 19 0 22,
 qmv nb 20 6 3,
 qix nb 21 22 19 20 0,
 qld nb 22 3 21,
 sop nb 23 (.buildSlice 22 1 #[(0, qt 22)]) 22,
 sop nb 24 (.call { callee := .builtin .append, args := #[qt 18, qt 23], argTypes := #[22, 22] }) 22,
 qsg nb 5 24 22]) (
     .skip)))) (
   .ops [qmv nb 12 6 3,
 qbo nb 13 .add 3 12 (qi 1) 3 3,
 qsg nb 6 13 3])))))) (
 .seq (
 .ops [qmv nb 25 5 22,
 qsg nb 4 25 22]) (
 .ret))))
noncomputable def c97 (nb : Nat) : SC :=
 .seq (
 .ops [sop nb 4 (.box 25 (qt 0)) 0,
 sop nb 8 (.assign (qi 0)) 3]) (
 .seq (
 .ops [sop nb 9 (.assign (qi 0)) 3]) (
 .seq (
 .seq (
 .ops [sop nb 10 (.assign (qi 0)) 3]) (
 .block 0 (
  .loop (
   .seq (
   .seq (
   .ops [qmv nb 13 10 3,
 qmv nb 14 2 22,
 qln nb 15 #[qt 14] #[22] 3,
 qbo nb 16 .lss 3 13 (qt 15) 3 4]) (
   .cond (qt 16) (
    .skip) (
    .exit 0))) (
   .seq (
   .block 1 (
    .seq (
    .ops [qmv nb 19 1 56,
 qln nb 20 #[qt 19] #[56] 3,
 qsg nb 11 20 3]) (
    .seq (
    .seq (
    .ops [qmv nb 21 10 3,
 qbo nb 22 .add 3 21 (qi 1) 3 3,
 qmv nb 23 2 22,
 qln nb 24 #[qt 23] #[22] 3,
 qbo nb 25 .lss 3 22 (qt 24) 3 4]) (
    .cond (qt 25) (
     .ops [qmv nb 26 2 22,
 qmv nb 27 10 3,
 qbo nb 28 .add 3 27 (qi 1) 3 3,
 qix nb 29 22 26 28 0,
 qld nb 30 3 29,
 qsg nb 11 30 3]) (
     .skip))) (
    .seq (
    .ops [qmv nb 31 3 3,
 qld nb 32 25 4,
 qmv nb 33 1 56,
 qmv nb 34 2 22,
 qmv nb 35 10 3,
 qix nb 36 22 34 35 0,
 qld nb 37 3 36,
 qmv nb 38 11 3,
 sop nb 39 (.slice 56 (qt 33) (some (qt 37)) (some (qt 38)) none) 56,
 qcl nb 40 124 #[qt 32, qt 39] #[25, 56] 3,
 qbo nb 41 .sub 3 31 (qt 40) 3 3,
 qsg nb 12 41 3]) (
    .seq (
    .seq (
    .ops [qmv nb 42 12 3,
 qbo nb 43 .lss 3 42 (qi 0) 3 4]) (
    .cond (qt 43) (
     .seq (
     .ops [sop nb 8 (.assign (qi (-1))) 3]) (
     .ret)) (
     .skip))) (
    .ops [qmv nb 44 9 3,
 qmv nb 45 12 3,
 sop nb 46 (.call { callee := .builtin .max, args := #[qt 44, qt 45], argTypes := #[3, 3] }) 3,
 qsg nb 9 46 3])))))) (
   .ops [qmv nb 17 10 3,
 qbo nb 18 .add 3 17 (qi 1) 3 3,
 qsg nb 10 18 3])))))) (
 .seq (
 .ops [qmv nb 47 9 3,
 qsg nb 8 47 3]) (
 .ret))))
noncomputable def c99 (nb : Nat) : SC :=
 .seq (
 .ops [sop nb 4 (.box 25 (qt 0)) 0,
 sop nb 8 (.assign (.const (.slice none 0 0))) 56]) (
 .seq (
 .seq (
 .ops [qmv nb 11 3 22,
 qln nb 12 #[qt 11] #[22] 3,
 qmv nb 13 1 56,
 qln nb 14 #[qt 13] #[56] 3,
 qbo nb 15 .eql 3 12 (qt 14) 3 4]) (
 .cond (qt 15) (
  .seq (
  .ops [qmv nb 16 3 22,
 sop nb 17 (.buildSlice 56 1 #[(0, qt 16)]) 56,
 qsg nb 8 17 56]) (
  .ret)) (
  .skip))) (
 .seq (
 .ops [sop nb 18 (.buildSlice 56 0 #[]) 56,
 qsg nb 9 18 56]) (
 .seq (
 .seq (
 .ops [sop nb 10 (.assign (qi 0)) 3]) (
 .block 0 (
  .loop (
   .seq (
   .seq (
   .ops [qmv nb 19 10 3,
 qmv nb 20 2 22,
 qln nb 21 #[qt 20] #[22] 3,
 qbo nb 22 .lss 3 19 (qt 21) 3 4]) (
   .cond (qt 22) (
    .skip) (
    .exit 0))) (
   .seq (
   .block 1 (
    .seq (
    .opsD [qmv nb 25 3 22,
 qmv nb 26 10 3,
 qcl nb 27 119 #[qt 25, qt 26] #[22, 3] 4,
 sop nb 28 (.unOp .not 4 (qt 27)) 4,
 qmv nb 29 28 4,
 gop nb 30 (.load 25 (qt 4)) 25 29 true,
 gop nb 31 (.move (qt 1)) 56 29 true,
 gop nb 32 (.move (qt 3)) 22 29 true,
 gop nb 33 (.call { callee := .builtin .len, args := #[qt 32], argTypes := #[22] }) 3 29 true,
 gop nb 34 (.indexAddr 56 (qt 31) (qt 33)) 0 29 true,
 gop nb 35 (.load 22 (qt 34)) 22 29 true,
 gop nb 36 (.call { callee := .value (.func 26), args := #[qt 30, qt 35], argTypes := #[25, 22] }) 3 29 true,
 gop nb 37 (.move (qt 2)) 22 29 true,
 gop nb 38 (.move (qt 10)) 3 29 true,
 gop nb 39 (.indexAddr 22 (qt 37) (qt 38)) 0 29 true,
 gop nb 40 (.load 3 (qt 39)) 3 29 true,
 gop nb 41 (.binOp .leq 3 (qt 36) (qt 40) 3) 4 29 true,
 sop nb 42 (.pick (qt 29) (qt 41) (.const (.bool false))) 4] [(11, 14), (11, 15)]) (
    .cond (qt 42) (
     .opsD [qmv nb 43 9 56,
 qld nb 44 25 4,
 qmv nb 45 1 56,
 qmv nb 46 2 22,
 sop nb 47 (.buildSlice 22 0 #[]) 22,
 qmv nb 48 3 22,
 sop nb 49 (.call { callee := .builtin .append, args := #[qt 47, qt 48], argTypes := #[22, 22] }) 22,
 qmv nb 50 10 3,
 sop nb 51 (.buildSlice 22 1 #[(0, qt 50)]) 22,
 sop nb 52 (.call { callee := .builtin .append, args := #[qt 49, qt 51], argTypes := #[22, 22] }) 22,
 qcl nb 53 99 #[qt 44, qt 45, qt 46, qt 52] #[25, 56, 22, 22] 56,
 sop nb 54 (.call { callee := .builtin .append, args := #[qt 43, qt 53], argTypes := #[56, 56] }) 56,
 qsg nb 9 54 56] [(1, 4), (1, 6), (1, 8), (4, 8), (6, 8), (1, 9)]) (
     .skip)))) (
   .ops [qmv nb 23 10 3,
 qbo nb 24 .add 3 23 (qi 1) 3 3,
 qsg nb 10 24 3])))))) (
 .seq (
 .ops [qmv nb 55 9 56,
 qsg nb 8 55 56]) (
 .ret)))))
noncomputable def c100 (nb : Nat) : SC :=
 .seq (
 .ops [sop nb 4 (.assign (qi 0)) 3]) (
 .seq (
 .ops [sop nb 5 (.assign (qi 0)) 3]) (
 .seq (
 .seq (
 .ops [sop nb 6 (.assign (qi 0)) 3]) (
 .block 0 (
  .loop (
   .seq (
   .seq (
   .ops [qmv nb 7 6 3,
 qmv nb 8 1 22,
 qln nb 9 #[qt 8] #[22] 3,
 qbo nb 10 .lss 3 7 (qt 9) 3 4]) (
   .cond (qt 10) (
    .skip) (
    .exit 0))) (
   .seq (
   .block 1 (
    .ops [qmv nb 13 5 3,
 qmv nb 14 0 22,
 qmv nb 15 1 22,
 qmv nb 16 6 3,
 qix nb 17 22 15 16 0,
 qld nb 18 3 17,
 qix nb 19 22 14 18 0,
 qld nb 20 3 19,
 qbo nb 21 .add 3 13 (qt 20) 3 3,
 qsg nb 5 21 3])) (
   .ops [qmv nb 11 6 3,
 qbo nb 12 .add 3 11 (qi 1) 3 3,
 qsg nb 6 12 3])))))) (
 .seq (
 .ops [qmv nb 22 5 3,
 qsg nb 4 22 3]) (
 .ret))))
noncomputable def c106 (nb : Nat) : SC :=
 .seq (
 .ops [sop nb 2 (.box 25 (qt 0)) 0,
 sop nb 4 (.assign (.const (.slice none 0 0))) 56]) (
 .seq (
 .seq (
 .ops [sop nb 5 (.assign (qi 0)) 3]) (
 .block 0 (
  .loop (
   .seq (
   .seq (
   .ops [qmv nb 9 5 3,
 qmv nb 10 1 22,
 qln nb 11 #[qt 10] #[22] 3,
 qbo nb 12 .lss 3 9 (qt 11) 3 4]) (
   .cond (qt 12) (
    .skip) (
    .exit 0))) (
   .seq (
   .block 1 (
    .seq (
    .seq (
    .ops [qmv nb 15 1 22,
 qmv nb 16 5 3,
 qix nb 17 22 15 16 0,
 qld nb 18 3 17,
 qbo nb 19 .neq 3 18 (qi (-1)) 3 4]) (
    .cond (qt 19) (
     .exit 1) (
     .skip))) (
    .seq (
    .ops [sop nb 20 (.buildSlice 56 0 #[]) 56,
 qsg nb 6 20 56]) (
    .seq (
    .seq (
    .ops [sop nb 7 (.assign (qi 0)) 3]) (
    .block 2 (
     .loop (
      .seq (
      .seq (
      .ops [qmv nb 21 7 3,
 sop nb 22 (.fieldAddr 25 (qt 2) 0) 0,
 qld nb 23 22 22,
 qln nb 24 #[qt 23] #[22] 3,
 qbo nb 25 .lss 3 21 (qt 24) 3 4]) (
      .cond (qt 25) (
       .skip) (
       .exit 2))) (
      .seq (
      .block 3 (
       .seq (
       .ops [sop nb 28 (.buildSlice 22 0 #[]) 22,
 qmv nb 29 1 22,
 sop nb 30 (.call { callee := .builtin .append, args := #[qt 28, qt 29], argTypes := #[22, 22] }) 22,
 qsg nb 8 30 22]) (
       .seq (
       .ops [qmv nb 31 8 22,
 qmv nb 32 5 3,
 qmv nb 33 7 3,
 qix nb 34 22 31 32 0,
 nop (.store 3 (qt 34) (qt 33)) 0]) (
       .ops [qmv nb 35 6 56,
 qld nb 36 25 2,
 qmv nb 37 8 22,
 qcl nb 38 106 #[qt 36, qt 37] #[25, 22] 56,
 sop nb 39 (.call { callee := .builtin .append, args := #[qt 35, qt 38], argTypes := #[56, 56] }) 56,
 qsg nb 6 39 56])))) (
      .ops [qmv nb 26 7 3,
 qbo nb 27 .add 3 26 (qi 1) 3 3,
 qsg nb 7 27 3])))))) (
    .seq (
    .ops [qmv nb 40 6 56,
 qsg nb 4 40 56]) (
    .ret)))))) (
   .ops [qmv nb 13 5 3,
 qbo nb 14 .add 3 13 (qi 1) 3 3,
 qsg nb 5 14 3])))))) (
 .seq (
 .ops [qmv nb 41 1 22,
 sop nb 42 (.buildSlice 56 1 #[(0, qt 41)]) 56,
 qsg nb 4 42 56]) (
 .ret)))
@[go_sem] theorem rs106 : Go.Proofs.Try.f106.results.toList = [.tmp 4] := by kernel_rfl
theorem k106 (nb : Nat) : sk nb Go.Proofs.Try.f106.ntmps (Go.Proofs.Try.f106.body.getD .skip) = some (c106 nb) := by kernel_rfl
theorem w106 {a : List Arg} {r : RV} (h : W Q (c106 0) [] ⟨ρ0 (a.map fun a => a.m.lv), h0⟩ (retG Q Go.Proofs.Try.f106.results.toList (retF r))) (l : Nat.ble a.length Go.Proofs.Try.f106.ntmps = true := by kernel_rfl) : Fn Q 106 a r := fn_intro Go.Proofs.Try.func106 rfl (by kernel_rfl) mix (k106 0) (Nat.le_of_ble_eq_true l) h
noncomputable def c124 (nb : Nat) : SC :=
 .seq (
 .ops [sop nb 2 (.box 25 (qt 0)) 0,
 sop nb 4 (.assign (qi 0)) 3]) (
 .seq (
 .ops [sop nb 7 (.fieldAddr 25 (qt 2) 2) 0,
 qld nb 8 3 7,
 sop nb 9 (.binOp .mul 3 (qi 2) (qt 8) 3) 3,
 qsg nb 5 9 3]) (
 .seq (
 .seq (
 .ops [sop nb 6 (.assign (qi 0)) 3]) (
 .block 0 (
  .loop (
   .seq (
   .seq (
   .ops [qmv nb 10 6 3,
 qmv nb 11 1 56,
 qln nb 12 #[qt 11] #[56] 3,
 qbo nb 13 .lss 3 10 (qt 12) 3 4]) (
   .cond (qt 13) (
    .skip) (
    .exit 0))) (
   .seq (
   .block 1 (
    .seq (
    .opsD [qmv nb 16 5 3,
 qld nb 17 25 2,
 qmv nb 18 1 56,
 qmv nb 19 6 3,
 qix nb 20 56 18 19 0,
 qld nb 21 22 20,
 qcl nb 22 26 #[qt 17, qt 21] #[25, 22] 3,
 sop nb 23 (.fieldAddr 25 (qt 2) 2) 0,
 qld nb 24 3 23,
 sop nb 25 (.binOp .mul 3 (qi 2) (qt 24) 3) 3,
 qbo nb 26 .sub 3 22 (qt 25) 3 3,
 qbo nb 27 .add 3 16 (qt 26) 3 3,
 qsg nb 5 27 3] [(6, 8)]) (
    .seq (
    .ops [qmv nb 28 6 3,
 qbo nb 29 .gtr 3 28 (qi 0) 3 4]) (
    .cond (qt 29) (
     .ops [qmv nb 30 5 3,
 sop nb 31 (.fieldAddr 25 (qt 2) 4) 0,
 qld nb 32 3 31,
 qbo nb 33 .add 3 30 (qt 32) 3 3,
 qsg nb 5 33 3]) (
     .skip))))) (
   .ops [qmv nb 14 6 3,
 qbo nb 15 .add 3 14 (qi 1) 3 3,
 qsg nb 6 15 3])))))) (
 .seq (
 .ops [qmv nb 34 5 3,
 qsg nb 4 34 3]) (
 .ret))))
end S04

