/- A part of the proof: C07r0, C07t0, C07v0, C07lj0. -/
import Derived.Test.YtmanbdacloeioaaF07
set_option linter.unusedVariables false
set_option linter.unusedSimpArgs false
set_option maxRecDepth 20000
namespace S07
open Go Abs
noncomputable def c13 (nb : Nat) : SC :=
 .seq (
 .ops [sop nb 2 (.box 24 (qt 0)) 0,
 sop nb 4 (.assign (.const (.bool false))) 4]) (
 .seq (
 .seq (
 .ops [sop nb 5 (.assign (qi 0)) 3]) (
 .block 0 (
  .loop (
   .seq (
   .seq (
   .ops [qmv nb 6 5 3,
 qmv nb 7 1 25,
 qln nb 8 #[qt 7] #[25] 3,
 qbo nb 9 .lss 3 6 (qt 8) 3 4]) (
   .cond (qt 9) (
    .skip) (
    .exit 0))) (
   .seq (
   .block 1 (
    .seq (
    .ops [qmv nb 12 1 25,
 qmv nb 13 5 3,
 qix nb 14 25 12 13 0,
 qld nb 15 26 14,
 qln nb 16 #[qt 15] #[26] 3,
 qbo nb 17 .gtr 3 16 (qi 12) 3 4]) (
    .cond (qt 17) (
     .seq (
     .ops [sop nb 4 (.assign (.const (.bool true))) 4]) (
     .ret)) (
     .skip)))) (
   .ops [qmv nb 10 5 3,
 qbo nb 11 .add 3 10 (qi 1) 3 3,
 qsg nb 5 11 3])))))) (
 .seq (
 .ops [sop nb 18 (.fieldAddr 24 (qt 2) 1) 0,
 qld nb 19 22 18,
 qln nb 20 #[qt 19] #[22] 3,
 qbo nb 21 .gtr 3 20 (qi 12) 3 4,
 qmv nb 22 21 4,
 gop nb 23 (.fieldAddr 24 (qt 2) 2) 0 22 false,
 gop nb 24 (.load 22 (qt 23)) 22 22 false,
 gop nb 25 (.call { callee := .builtin .len, args := #[qt 24], argTypes := #[22] }) 3 22 false,
 gop nb 26 (.binOp .gtr 3 (qt 25) (qi 12) 3) 4 22 false,
 sop nb 27 (.pick (qt 22) (.const (.bool true)) (qt 26)) 4,
 qmv nb 28 27 4,
 gop nb 29 (.move (qt 1)) 25 28 false,
 gop nb 30 (.call { callee := .builtin .len, args := #[qt 29], argTypes := #[25] }) 3 28 false,
 gop nb 31 (.binOp .gtr 3 (qt 30) (qi 10) 3) 4 28 false,
 sop nb 32 (.pick (qt 28) (.const (.bool true)) (qt 31)) 4,
 qsg nb 4 32 4]) (
 .ret)))
@[go_sem] theorem rs13 : Go.Proofs.Try.f13.results.toList = [.tmp 4] := by kernel_rfl
theorem k13 (nb : Nat) : sk nb Go.Proofs.Try.f13.ntmps (Go.Proofs.Try.f13.body.getD .skip) = some (c13 nb) := by kernel_rfl
theorem w13 {a : List Arg} {r : RV} (h : W Q (c13 0) [] ⟨ρ0 (a.map fun a => a.m.lv), h0⟩ (retG Q Go.Proofs.Try.f13.results.toList (retF r))) (l : Nat.ble a.length Go.Proofs.Try.f13.ntmps = true := by kernel_rfl) : Fn Q 13 a r := fn_intro Go.Proofs.Try.func13 rfl (by kernel_rfl) mix (k13 0) (Nat.le_of_ble_eq_true l) h
noncomputable def c15 (nb : Nat) : SC :=
 .seq (
 .ops [sop nb 1 (.box 24 (qt 0)) 0,
 sop nb 2 (.alloc 24) 0]) (
 .seq (
 .opsD [sop nb 3 (.buildSlice 22 0 #[]) 22,
 sop nb 4 (.fieldAddr 24 (qt 1) 1) 0,
 qld nb 5 22 4,
 sop nb 6 (.call { callee := .builtin .append, args := #[qt 3, qt 5], argTypes := #[22, 22] }) 22,
 sop nb 7 (.buildSlice 22 0 #[]) 22,
 sop nb 8 (.fieldAddr 24 (qt 1) 2) 0,
 qld nb 9 22 8,
 sop nb 10 (.call { callee := .builtin .append, args := #[qt 7, qt 9], argTypes := #[22, 22] }) 22,
 sop nb 11 (.fieldAddr 24 (qt 1) 1) 0,
 nop (.store 22 (qt 11) (qt 6)) 0,
 sop nb 12 (.fieldAddr 24 (qt 1) 2) 0,
 nop (.store 22 (qt 12) (qt 10)) 0] [(0, 2), (0, 4), (2, 4), (3, 4), (0, 6), (3, 6), (4, 6)]) (
 .seq (
 .ops [qld nb 13 24 1,
 nop (.store 24 (qt 2) (qt 13)) 0]) (
 .ret)))
@[go_sem] theorem rs15 : Go.Proofs.Try.f15.results.toList = [.cell 2 24] := by kernel_rfl
theorem k15 (nb : Nat) : sk nb Go.Proofs.Try.f15.ntmps (Go.Proofs.Try.f15.body.getD .skip) = some (c15 nb) := by kernel_rfl
theorem w15 {a : List Arg} {r : RV} (h : W Q (c15 0) [] ⟨ρ0 (a.map fun a => a.m.lv), h0⟩ (retG Q Go.Proofs.Try.f15.results.toList (retF r))) (l : Nat.ble a.length Go.Proofs.Try.f15.ntmps = true := by kernel_rfl) : Fn Q 15 a r := fn_intro Go.Proofs.Try.func15 rfl (by kernel_rfl) mix (k15 0) (Nat.le_of_ble_eq_true l) h
noncomputable def c16 (nb : Nat) : SC :=
 .seq (
 .ops [sop nb 2 (.assign (.const (.slice none 0 0))) 25]) (
 .seq (
 .ops [sop nb 5 (.buildSlice 25 0 #[]) 25,
 qsg nb 3 5 25]) (
 .seq (
 .seq (
 .ops [sop nb 4 (.assign (qi 0)) 3]) (
 .block 0 (
  .loop (
   .seq (
   .seq (
   .ops [qmv nb 6 4 3,
 qmv nb 7 0 25,
 qln nb 8 #[qt 7] #[25] 3,
 qbo nb 9 .lss 3 6 (qt 8) 3 4]) (
   .cond (qt 9) (
    .skip) (
    .exit 0))) (
   .seq (
   .block 1 (
    .ops [qmv nb 12 3 25,
 sop nb 13 (.buildSlice 26 0 #[]) 26,
 qmv nb 14 0 25,
 qmv nb 15 4 3,
 qix nb 16 25 14 15 0,
 qld nb 17 26 16,
 sop nb 18 (.call { callee := .builtin .append, args := #[qt 13, qt 17], argTypes := #[26, 26] }) 26,
 sop nb 19 (.buildSlice 25 1 #[(0, qt 18)]) 25,
 sop nb 20 (.call { callee := .builtin .append, args := #[qt 12, qt 19], argTypes := #[25, 25] }) 25,
 qsg nb 3 20 25])) (
   .ops [qmv nb 10 4 3,
 qbo nb 11 .add 3 10 (qi 1) 3 3,
 qsg nb 4 11 3])))))) (
 .seq (
 .ops [qmv nb 21 3 25,
 qsg nb 2 21 25]) (
 .ret))))
@[go_sem] theorem rs16 : Go.Proofs.Try.f16.results.toList = [.tmp 2] := by kernel_rfl
theorem k16 (nb : Nat) : sk nb Go.Proofs.Try.f16.ntmps (Go.Proofs.Try.f16.body.getD .skip) = some (c16 nb) := by kernel_rfl
theorem w16 {a : List Arg} {r : RV} (h : W Q (c16 0) [] ⟨ρ0 (a.map fun a => a.m.lv), h0⟩ (retG Q Go.Proofs.Try.f16.results.toList (retF r))) (l : Nat.ble a.length Go.Proofs.Try.f16.ntmps = true := by kernel_rfl) : Fn Q 16 a r := fn_intro Go.Proofs.Try.func16 rfl (by kernel_rfl) mix (k16 0) (Nat.le_of_ble_eq_true l) h
noncomputable def c20 (nb : Nat) : SC :=
 .seq (
 .ops [sop nb 2 (.box 24 (qt 0)) 0,
 sop nb 3 (.box 24 (qt 1)) 0,
 sop nb 4 (.assign (.const (.bool false))) 4]) (
 .seq (
 .seq (
 .ops [sop nb 7 (.fieldAddr 24 (qt 2) 0) 0,
 qld nb 8 3 7,
 sop nb 9 (.fieldAddr 24 (qt 3) 0) 0,
 qld nb 10 3 9,
 qbo nb 11 .neq 3 8 (qt 10) 3 4,
 qmv nb 12 11 4,
 gop nb 13 (.fieldAddr 24 (qt 2) 1) 0 12 false,
 gop nb 14 (.load 22 (qt 13)) 22 12 false,
 gop nb 15 (.call { callee := .builtin .len, args := #[qt 14], argTypes := #[22] }) 3 12 false,
 gop nb 16 (.fieldAddr 24 (qt 3) 1) 0 12 false,
 gop nb 17 (.load 22 (qt 16)) 22 12 false,
 gop nb 18 (.call { callee := .builtin .len, args := #[qt 17], argTypes := #[22] }) 3 12 false,
 gop nb 19 (.binOp .neq 3 (qt 15) (qt 18) 3) 4 12 false,
 sop nb 20 (.pick (qt 12) (.const (.bool true)) (qt 19)) 4,
 qmv nb 21 20 4,
 gop nb 22 (.fieldAddr 24 (qt 2) 2) 0 21 false,
 gop nb 23 (.load 22 (qt 22)) 22 21 false,
 gop nb 24 (.call { callee := .builtin .len, args := #[qt 23], argTypes := #[22] }) 3 21 false,
 gop nb 25 (.fieldAddr 24 (qt 3) 2) 0 21 false,
 gop nb 26 (.load 22 (qt 25)) 22 21 false,
 gop nb 27 (.call { callee := .builtin .len, args := #[qt 26], argTypes := #[22] }) 3 21 false,
 gop nb 28 (.binOp .neq 3 (qt 24) (qt 27) 3) 4 21 false,
 sop nb 29 (.pick (qt 21) (.const (.bool true)) (qt 28)) 4]) (
 .cond (qt 29) (
  .seq (
  .ops [sop nb 4 (.assign (.const (.bool false))) 4]) (
  .ret)) (
  .skip))) (
 .seq (
 .seq (
 .ops [sop nb 5 (.assign (qi 0)) 3]) (
 .block 0 (
  .loop (
   .seq (
   .seq (
   .ops [qmv nb 30 5 3,
 sop nb 31 (.fieldAddr 24 (qt 2) 1) 0,
 qld nb 32 22 31,
 qln nb 33 #[qt 32] #[22] 3,
 qbo nb 34 .lss 3 30 (qt 33) 3 4]) (
   .cond (qt 34) (
    .skip) (
    .exit 0))) (
   .seq (
   .block 1 (
    .seq (
    .ops [sop nb 37 (.fieldAddr 24 (qt 2) 1) 0,
 qld nb 38 22 37,
 qmv nb 39 5 3,
 qix nb 40 22 38 39 0,
 qld nb 41 115 40,
 sop nb 42 (.fieldAddr 24 (qt 3) 1) 0,
 qld nb 43 22 42,
 qmv nb 44 5 3,
 qix nb 45 22 43 44 0,
 qld nb 46 115 45,
 qbo nb 47 .neq 115 41 (qt 46) 115 4]) (
    .cond (qt 47) (
     .seq (
     .ops [sop nb 4 (.assign (.const (.bool false))) 4]) (
     .ret)) (
     .skip)))) (
   .ops [qmv nb 35 5 3,
 qbo nb 36 .add 3 35 (qi 1) 3 3,
 qsg nb 5 36 3])))))) (
 .seq (
 .seq (
 .ops [sop nb 6 (.assign (qi 0)) 3]) (
 .block 2 (
  .loop (
   .seq (
   .seq (
   .ops [qmv nb 48 6 3,
 sop nb 49 (.fieldAddr 24 (qt 2) 2) 0,
 qld nb 50 22 49,
 qln nb 51 #[qt 50] #[22] 3,
 qbo nb 52 .lss 3 48 (qt 51) 3 4]) (
   .cond (qt 52) (
    .skip) (
    .exit 2))) (
   .seq (
   .block 3 (
    .seq (
    .ops [sop nb 55 (.fieldAddr 24 (qt 2) 2) 0,
 qld nb 56 22 55,
 qmv nb 57 6 3,
 qix nb 58 22 56 57 0,
 qld nb 59 115 58,
 sop nb 60 (.fieldAddr 24 (qt 3) 2) 0,
 qld nb 61 22 60,
 qmv nb 62 6 3,
 qix nb 63 22 61 62 0,
 qld nb 64 115 63,
 qbo nb 65 .neq 115 59 (qt 64) 115 4]) (
    .cond (qt 65) (
     .seq (
     .ops [sop nb 4 (.assign (.const (.bool false))) 4]) (
     .ret)) (
     .skip)))) (
   .ops [qmv nb 53 6 3,
 qbo nb 54 .add 3 53 (qi 1) 3 3,
 qsg nb 6 54 3])))))) (
 .seq (
 .ops [sop nb 4 (.assign (.const (.bool true))) 4]) (
 .ret)))))
@[go_sem] theorem rs20 : Go.Proofs.Try.f20.results.toList = [.tmp 4] := by kernel_rfl
theorem k20 (nb : Nat) : sk nb Go.Proofs.Try.f20.ntmps (Go.Proofs.Try.f20.body.getD .skip) = some (c20 nb) := by kernel_rfl
theorem w20 {a : List Arg} {r : RV} (h : W Q (c20 0) [] ⟨ρ0 (a.map fun a => a.m.lv), h0⟩ (retG Q Go.Proofs.Try.f20.results.toList (retF r))) (l : Nat.ble a.length Go.Proofs.Try.f20.ntmps = true := by kernel_rfl) : Fn Q 20 a r := fn_intro Go.Proofs.Try.func20 rfl (by kernel_rfl) mix (k20 0) (Nat.le_of_ble_eq_true l) h
noncomputable def c23 (nb : Nat) : SC :=
 .seq (
 .ops [sop nb 1 (.box 24 (qt 0)) 0,
 sop nb 2 (.assign (qi 0)) 34]) (
 .seq (
 .seq (
 .ops [sop nb 11 (.fieldAddr 24 (qt 1) 0) 0,
 qld nb 12 3 11,
 qcl nb 13 26 #[qt 12, qi 1, qi 8] #[3, 3, 3] 4,
 sop nb 14 (.unOp .not 4 (qt 13)) 4]) (
 .cond (qt 14) (
  .seq (
  .ops [sop nb 2 (.assign (qi 4)) 34]) (
  .ret)) (
  .skip))) (
 .seq (
 .seq (
 .ops [sop nb 15 (.fieldAddr 24 (qt 1) 1) 0,
 qld nb 16 22 15,
 qln nb 17 #[qt 16] #[22] 3,
 qbo nb 18 .gtr 3 17 (qi 8) 3 4,
 qmv nb 19 18 4,
 gop nb 20 (.fieldAddr 24 (qt 1) 2) 0 19 false,
 gop nb 21 (.load 22 (qt 20)) 22 19 false,
 gop nb 22 (.call { callee := .builtin .len, args := #[qt 21], argTypes := #[22] }) 3 19 false,
 gop nb 23 (.binOp .gtr 3 (qt 22) (qi 8) 3) 4 19 false,
 sop nb 24 (.pick (qt 19) (.const (.bool true)) (qt 23)) 4]) (
 .cond (qt 24) (
  .seq (
  .ops [sop nb 2 (.assign (qi 5)) 34]) (
  .ret)) (
  .skip))) (
 .seq (
 .seq (
 .ops [sop nb 3 (.assign (qi 0)) 3]) (
 .block 0 (
  .loop (
   .seq (
   .seq (
   .ops [qmv nb 25 3 3,
 sop nb 26 (.fieldAddr 24 (qt 1) 1) 0,
 qld nb 27 22 26,
 qln nb 28 #[qt 27] #[22] 3,
 qbo nb 29 .lss 3 25 (qt 28) 3 4]) (
   .cond (qt 29) (
    .skip) (
    .exit 0))) (
   .seq (
   .block 1 (
    .seq (
    .ops [sop nb 32 (.fieldAddr 24 (qt 1) 1) 0,
 qld nb 33 22 32,
 qmv nb 34 3 3,
 qix nb 35 22 33 34 0,
 qld nb 36 115 35,
 sop nb 4 (.alloc 115) 0,
 nop (.store 115 (qt 4) (qt 36)) 0]) (
    .seq (
    .ops [sop nb 37 (.fieldAddr 115 (qt 4) 0) 0,
 qld nb 38 3 37,
 sop nb 39 (.fieldAddr 24 (qt 1) 0) 0,
 qld nb 40 3 39,
 qbo nb 41 .sub 3 40 (qi 1) 3 3,
 qcl nb 42 26 #[qt 38, qi 0, qt 41] #[3, 3, 3] 4,
 sop nb 43 (.unOp .not 4 (qt 42)) 4,
 qmv nb 44 43 4,
 gop nb 45 (.fieldAddr 115 (qt 4) 1) 0 44 false,
 gop nb 46 (.load 3 (qt 45)) 3 44 false,
 gop nb 47 (.fieldAddr 24 (qt 1) 0) 0 44 false,
 gop nb 48 (.load 3 (qt 47)) 3 44 false,
 gop nb 49 (.binOp .sub 3 (qt 48) (qi 1) 3) 3 44 false,
 gop nb 50 (.call { callee := .value (.func 26), args := #[qt 46, qi 0, qt 49], argTypes := #[3, 3, 3] }) 4 44 false,
 gop nb 51 (.unOp .not 4 (qt 50)) 4 44 false,
 sop nb 52 (.pick (qt 44) (.const (.bool true)) (qt 51)) 4]) (
    .cond (qt 52) (
     .seq (
     .ops [sop nb 2 (.assign (qi 2)) 34]) (
     .ret)) (
     .skip))))) (
   .ops [qmv nb 30 3 3,
 qbo nb 31 .add 3 30 (qi 1) 3 3,
 qsg nb 3 31 3])))))) (
 .seq (
 .seq (
 .ops [sop nb 5 (.assign (qi 0)) 3]) (
 .block 2 (
  .loop (
   .seq (
   .seq (
   .ops [qmv nb 53 5 3,
 sop nb 54 (.fieldAddr 24 (qt 1) 2) 0,
 qld nb 55 22 54,
 qln nb 56 #[qt 55] #[22] 3,
 qbo nb 57 .lss 3 53 (qt 56) 3 4]) (
   .cond (qt 57) (
    .skip) (
    .exit 2))) (
   .seq (
   .block 3 (
    .seq (
    .ops [sop nb 60 (.fieldAddr 24 (qt 1) 2) 0,
 qld nb 61 22 60,
 qmv nb 62 5 3,
 qix nb 63 22 61 62 0,
 qld nb 64 115 63,
 sop nb 6 (.alloc 115) 0,
 nop (.store 115 (qt 6) (qt 64)) 0]) (
    .seq (
    .ops [sop nb 65 (.fieldAddr 115 (qt 6) 0) 0,
 qld nb 66 3 65,
 sop nb 67 (.fieldAddr 24 (qt 1) 0) 0,
 qld nb 68 3 67,
 qbo nb 69 .sub 3 68 (qi 1) 3 3,
 qcl nb 70 26 #[qt 66, qi 0, qt 69] #[3, 3, 3] 4,
 sop nb 71 (.unOp .not 4 (qt 70)) 4,
 qmv nb 72 71 4,
 gop nb 73 (.fieldAddr 115 (qt 6) 1) 0 72 false,
 gop nb 74 (.load 3 (qt 73)) 3 72 false,
 gop nb 75 (.fieldAddr 24 (qt 1) 0) 0 72 false,
 gop nb 76 (.load 3 (qt 75)) 3 72 false,
 gop nb 77 (.binOp .sub 3 (qt 76) (qi 1) 3) 3 72 false,
 gop nb 78 (.call { callee := .value (.func 26), args := #[qt 74, qi 0, qt 77], argTypes := #[3, 3, 3] }) 4 72 false,
 gop nb 79 (.unOp .not 4 (qt 78)) 4 72 false,
 sop nb 80 (.pick (qt 72) (.const (.bool true)) (qt 79)) 4,
 qmv nb 81 80 4,
 gop nb 82 (.fieldAddr 115 (qt 6) 0) 0 81 false,
 gop nb 83 (.load 3 (qt 82)) 3 81 false,
 gop nb 84 (.fieldAddr 115 (qt 6) 1) 0 81 false,
 gop nb 85 (.load 3 (qt 84)) 3 81 false,
 gop nb 86 (.binOp .eql 3 (qt 83) (qt 85) 3) 4 81 false,
 sop nb 87 (.pick (qt 81) (.const (.bool true)) (qt 86)) 4]) (
    .cond (qt 87) (
     .seq (
     .ops [sop nb 2 (.assign (qi 2)) 34]) (
     .ret)) (
     .skip))))) (
   .ops [qmv nb 58 5 3,
 qbo nb 59 .add 3 58 (qi 1) 3 3,
 qsg nb 5 59 3])))))) (
 .seq (
 .seq (
 .ops [sop nb 7 (.assign (qi 0)) 3]) (
 .block 4 (
  .loop (
   .seq (
   .seq (
   .ops [qmv nb 88 7 3,
 sop nb 89 (.fieldAddr 24 (qt 1) 1) 0,
 qld nb 90 22 89,
 qln nb 91 #[qt 90] #[22] 3,
 qbo nb 92 .lss 3 88 (qt 91) 3 4]) (
   .cond (qt 92) (
    .skip) (
    .exit 4))) (
   .seq (
   .block 5 (
    .seq (
    .ops [sop nb 8 (.assign (qi 0)) 3]) (
    .block 6 (
     .loop (
      .seq (
      .seq (
      .ops [qmv nb 95 8 3,
 qmv nb 96 7 3,
 qbo nb 97 .lss 3 95 (qt 96) 3 4]) (
      .cond (qt 97) (
       .skip) (
       .exit 6))) (
      .seq (
      .block 7 (
       .seq (
       .opsD [sop nb 100 (.fieldAddr 24 (qt 1) 1) 0,
 qld nb 101 22 100,
 qmv nb 102 7 3,
 qix nb 103 22 101 102 0,
 qld nb 104 115 103,
 sop nb 105 (.fieldAddr 24 (qt 1) 1) 0,
 qld nb 106 22 105,
 qmv nb 107 8 3,
 qix nb 108 22 106 107 0,
 qld nb 109 115 108,
 sop nb 9 (.alloc 115) 0,
 sop nb 10 (.alloc 115) 0,
 nop (.store 115 (qt 9) (qt 104)) 0,
 nop (.store 115 (qt 10) (qt 109)) 0] [(1, 10), (3, 10), (4, 10), (6, 10), (8, 10), (9, 10), (1, 11), (3, 11), (4, 11), (6, 11), (8, 11), (9, 11), (10, 11), (6, 12), (8, 12), (9, 12)]) (
       .seq (
       .ops [sop nb 110 (.fieldAddr 115 (qt 9) 0) 0,
 qld nb 111 3 110,
 sop nb 112 (.fieldAddr 115 (qt 10) 0) 0,
 qld nb 113 3 112,
 qbo nb 114 .eql 3 111 (qt 113) 3 4,
 qmv nb 115 114 4,
 gop nb 116 (.fieldAddr 115 (qt 9) 0) 0 115 false,
 gop nb 117 (.load 3 (qt 116)) 3 115 false,
 gop nb 118 (.fieldAddr 115 (qt 10) 1) 0 115 false,
 gop nb 119 (.load 3 (qt 118)) 3 115 false,
 gop nb 120 (.binOp .eql 3 (qt 117) (qt 119) 3) 4 115 false,
 sop nb 121 (.pick (qt 115) (.const (.bool true)) (qt 120)) 4,
 qmv nb 122 121 4,
 gop nb 123 (.fieldAddr 115 (qt 9) 1) 0 122 false,
 gop nb 124 (.load 3 (qt 123)) 3 122 false,
 gop nb 125 (.fieldAddr 115 (qt 10) 0) 0 122 false,
 gop nb 126 (.load 3 (qt 125)) 3 122 false,
 gop nb 127 (.binOp .eql 3 (qt 124) (qt 126) 3) 4 122 false,
 sop nb 128 (.pick (qt 122) (.const (.bool true)) (qt 127)) 4,
 qmv nb 129 128 4,
 gop nb 130 (.fieldAddr 115 (qt 9) 1) 0 129 false,
 gop nb 131 (.load 3 (qt 130)) 3 129 false,
 gop nb 132 (.fieldAddr 115 (qt 10) 1) 0 129 false,
 gop nb 133 (.load 3 (qt 132)) 3 129 false,
 gop nb 134 (.binOp .eql 3 (qt 131) (qt 133) 3) 4 129 false,
 sop nb 135 (.pick (qt 129) (.const (.bool true)) (qt 134)) 4]) (
       .cond (qt 135) (
        .seq (
        .ops [sop nb 2 (.assign (qi 6)) 34]) (
        .ret)) (
        .skip))))) (
      .ops [qmv nb 98 8 3,
 qbo nb 99 .add 3 98 (qi 1) 3 3,
 qsg nb 8 99 3]))))))) (
   .ops [qmv nb 93 7 3,
 qbo nb 94 .add 3 93 (qi 1) 3 3,
 qsg nb 7 94 3])))))) (
 .seq (
 .ops [sop nb 2 (.assign (qi 0)) 34]) (
 .ret)))))))
@[go_sem] theorem rs23 : Go.Proofs.Try.f23.results.toList = [.tmp 2] := by kernel_rfl
theorem k23 (nb : Nat) : sk nb Go.Proofs.Try.f23.ntmps (Go.Proofs.Try.f23.body.getD .skip) = some (c23 nb) := by kernel_rfl
theorem w23 {a : List Arg} {r : RV} (h : W Q (c23 0) [] ⟨ρ0 (a.map fun a => a.m.lv), h0⟩ (retG Q Go.Proofs.Try.f23.results.toList (retF r))) (l : Nat.ble a.length Go.Proofs.Try.f23.ntmps = true := by kernel_rfl) : Fn Q 23 a r := fn_intro Go.Proofs.Try.func23 rfl (by kernel_rfl) mix (k23 0) (Nat.le_of_ble_eq_true l) h
noncomputable def c24 (nb : Nat) : SC :=
 .seq (
 .ops [sop nb 2 (.box 24 (qt 0)) 0,
 sop nb 4 (.assign (qi 0)) 34]) (
 .seq (
 .seq (
 .ops [qmv nb 6 1 25,
 qln nb 7 #[qt 6] #[25] 3,
 qbo nb 8 .gtr 3 7 (qi 5) 3 4]) (
 .cond (qt 8) (
  .seq (
  .ops [sop nb 4 (.assign (qi 5)) 34]) (
  .ret)) (
  .skip))) (
 .seq (
 .seq (
 .ops [sop nb 5 (.assign (qi 0)) 3]) (
 .block 0 (
  .loop (
   .seq (
   .seq (
   .ops [qmv nb 9 5 3,
 qmv nb 10 1 25,
 qln nb 11 #[qt 10] #[25] 3,
 qbo nb 12 .lss 3 9 (qt 11) 3 4]) (
   .cond (qt 12) (
    .skip) (
    .exit 0))) (
   .seq (
   .block 1 (
    .seq (
    .ops [qld nb 15 24 2,
 qmv nb 16 1 25,
 qmv nb 17 5 3,
 qix nb 18 25 16 17 0,
 qld nb 19 26 18,
 qcl nb 20 31 #[qt 15, qt 19] #[24, 26] 4,
 sop nb 21 (.unOp .not 4 (qt 20)) 4]) (
    .cond (qt 21) (
     .seq (
     .ops [sop nb 4 (.assign (qi 4)) 34]) (
     .ret)) (
     .skip)))) (
   .ops [qmv nb 13 5 3,
 qbo nb 14 .add 3 13 (qi 1) 3 3,
 qsg nb 5 14 3])))))) (
 .seq (
 .ops [sop nb 4 (.assign (qi 0)) 34]) (
 .ret))))
noncomputable def c25 (nb : Nat) : SC :=
 .seq (
 .ops [sop nb 2 (.box 24 (qt 0)) 0,
 sop nb 4 (.assign (.const (.bool false))) 4]) (
 .seq (
 .seq (
 .ops [sop nb 5 (.assign (qi 0)) 3]) (
 .block 0 (
  .loop (
   .seq (
   .seq (
   .ops [qmv nb 6 5 3,
 qmv nb 7 1 26,
 qln nb 8 #[qt 7] #[26] 3,
 qbo nb 9 .lss 3 6 (qt 8) 3 4]) (
   .cond (qt 9) (
    .skip) (
    .exit 0))) (
   .seq (
   .block 1 (
    .seq (
    .ops [qmv nb 12 1 26,
 qmv nb 13 5 3,
 qix nb 14 26 12 13 0,
 qld nb 15 3 14,
 sop nb 16 (.fieldAddr 24 (qt 2) 0) 0,
 qld nb 17 3 16,
 qbo nb 18 .sub 3 17 (qi 1) 3 3,
 qcl nb 19 26 #[qt 15, (qi (-1)), qt 18] #[3, 3, 3] 4,
 sop nb 20 (.unOp .not 4 (qt 19)) 4]) (
    .cond (qt 20) (
     .seq (
     .ops [sop nb 4 (.assign (.const (.bool false))) 4]) (
     .ret)) (
     .skip)))) (
   .ops [qmv nb 10 5 3,
 qbo nb 11 .add 3 10 (qi 1) 3 3,
 qsg nb 5 11 3])))))) (
 .seq (
 .ops [qmv nb 21 1 26,
 qln nb 22 #[qt 21] #[26] 3,
 qcl nb 23 26 #[qt 22, qi 1, qi 6] #[3, 3, 3] 4,
 qsg nb 4 23 4]) (
 .ret)))
noncomputable def c26 (nb : Nat) : SC :=
 .seq (
 .ops [sop nb 6 (.assign (.const (.bool false))) 4]) (
 .seq (
 .ops [qmv nb 7 0 3,
 qmv nb 8 1 3,
 qbo nb 9 .geq 3 7 (qt 8) 3 4,
 qmv nb 10 9 4,
 gop nb 11 (.move (qt 0)) 3 10 true,
 gop nb 12 (.move (qt 2)) 3 10 true,
 gop nb 13 (.binOp .leq 3 (qt 11) (qt 12) 3) 4 10 true,
 sop nb 14 (.pick (qt 10) (qt 13) (.const (.bool false))) 4,
 qsg nb 6 14 4]) (
 .ret))
@[go_sem] theorem rs26 : Go.Proofs.Try.f26.results.toList = [.tmp 6] := by kernel_rfl
theorem k26 (nb : Nat) : sk nb Go.Proofs.Try.f26.ntmps (Go.Proofs.Try.f26.body.getD .skip) = some (c26 nb) := by kernel_rfl
theorem w26 {a : List Arg} {r : RV} (h : W Q (c26 0) [] ⟨ρ0 (a.map fun a => a.m.lv), h0⟩ (retG Q Go.Proofs.Try.f26.results.toList (retF r))) (l : Nat.ble a.length Go.Proofs.Try.f26.ntmps = true := by kernel_rfl) : Fn Q 26 a r := fn_intro Go.Proofs.Try.func26 rfl (by kernel_rfl) mix (k26 0) (Nat.le_of_ble_eq_true l) h
noncomputable def c31 (nb : Nat) : SC :=
 .seq (
 .ops [sop nb 2 (.box 24 (qt 0)) 0,
 sop nb 4 (.assign (.const (.bool false))) 4]) (
 .seq (
 .seq (
 .ops [sop nb 5 (.assign (qi 0)) 3]) (
 .block 0 (
  .loop (
   .seq (
   .seq (
   .ops [qmv nb 6 5 3,
 qmv nb 7 1 26,
 qln nb 8 #[qt 7] #[26] 3,
 qbo nb 9 .lss 3 6 (qt 8) 3 4]) (
   .cond (qt 9) (
    .skip) (
    .exit 0))) (
   .seq (
   .block 1 (
    .seq (
    .ops [qmv nb 12 1 26,
 qmv nb 13 5 3,
 qix nb 14 26 12 13 0,
 qld nb 15 3 14,
 sop nb 16 (.fieldAddr 24 (qt 2) 0) 0,
 qld nb 17 3 16,
 qbo nb 18 .sub 3 17 (qi 1) 3 3,
 qcl nb 19 26 #[qt 15, qi 0, qt 18] #[3, 3, 3] 4,
 sop nb 20 (.unOp .not 4 (qt 19)) 4]) (
    .cond (qt 20) (
     .seq (
     .ops [sop nb 4 (.assign (.const (.bool false))) 4]) (
     .ret)) (
     .skip)))) (
   .ops [qmv nb 10 5 3,
 qbo nb 11 .add 3 10 (qi 1) 3 3,
 qsg nb 5 11 3])))))) (
 .seq (
 .ops [qmv nb 21 1 26,
 qln nb 22 #[qt 21] #[26] 3,
 qcl nb 23 26 #[qt 22, qi 1, qi 6] #[3, 3, 3] 4,
 qsg nb 4 23 4]) (
 .ret)))
noncomputable def c32 (nb : Nat) : SC :=
 .seq (
 .ops [sop nb 3 (.box 24 (qt 0)) 0,
 sop nb 6 (.assign (.const (.bool false))) 4]) (
 .seq (
 .seq (
 .ops [sop nb 7 (.assign (qi 0)) 3]) (
 .block 0 (
  .loop (
   .seq (
   .seq (
   .ops [qmv nb 8 7 3,
 qmv nb 9 1 26,
 qln nb 10 #[qt 9] #[26] 3,
 qbo nb 11 .lss 3 8 (qt 10) 3 4]) (
   .cond (qt 11) (
    .skip) (
    .exit 0))) (
   .seq (
   .block 1 (
    .seq (
    .ops [qmv nb 14 1 26,
 qmv nb 15 7 3,
 qix nb 16 26 14 15 0,
 qld nb 17 3 16,
 qmv nb 18 2 3,
 qcl nb 19 26 #[qt 17, qi 0, qt 18] #[3, 3, 3] 4,
 sop nb 20 (.unOp .not 4 (qt 19)) 4]) (
    .cond (qt 20) (
     .seq (
     .ops [sop nb 6 (.assign (.const (.bool false))) 4]) (
     .ret)) (
     .skip)))) (
   .ops [qmv nb 12 7 3,
 qbo nb 13 .add 3 12 (qi 1) 3 3,
 qsg nb 7 13 3])))))) (
 .seq (
 .ops [qmv nb 21 1 26,
 qln nb 22 #[qt 21] #[26] 3,
 sop nb 23 (.fieldAddr 24 (qt 3) 0) 0,
 qld nb 24 3 23,
 qbo nb 25 .eql 3 22 (qt 24) 3 4,
 qsg nb 6 25 4]) (
 .ret)))
@[go_sem] theorem rs32 : Go.Proofs.Try.f32.results.toList = [.tmp 6] := by kernel_rfl
theorem k32 (nb : Nat) : sk nb Go.Proofs.Try.f32.ntmps (Go.Proofs.Try.f32.body.getD .skip) = some (c32 nb) := by kernel_rfl
theorem w32 {a : List Arg} {r : RV} (h : W Q (c32 0) [] ⟨ρ0 (a.map fun a => a.m.lv), h0⟩ (retG Q Go.Proofs.Try.f32.results.toList (retF r))) (l : Nat.ble a.length Go.Proofs.Try.f32.ntmps = true := by kernel_rfl) : Fn Q 32 a r := fn_intro Go.Proofs.Try.func32 rfl (by kernel_rfl) mix (k32 0) (Nat.le_of_ble_eq_true l) h
noncomputable def c54 (nb : Nat) : SC :=
 .seq (
 .ops [sop nb 1 (.box 24 (qt 0)) 0,
 sop nb 2 (.assign (qi 0)) 34]) (
 .seq (
 .ops [qld nb 6 24 1,
 qcl nb 7 82 #[qt 6] #[24] 117,
 qmv nb 5 7 117,
 qex nb 8 5 0 108,
 qex nb 9 5 1 34,
 qsg nb 3 8 108,
 qsg nb 4 9 34]) (
 .seq (
 .ops [qmv nb 10 4 34,
 qsg nb 2 10 34]) (
 .ret)))
noncomputable def c55 (nb : Nat) : SC :=
 .seq (
 .ops [sop nb 3 (.box 24 (qt 0)) 0,
 sop nb 6 (.assign (.const (.slice none 0 0))) 26]) (
 .seq (
 .ops [sop nb 11 (.buildSlice 26 0 #[]) 26,
 qsg nb 7 11 26]) (
 .seq (
 .seq (
 .ops [sop nb 8 (.assign (qi 0)) 3]) (
 .block 0 (
  .loop (
   .seq (
   .seq (
   .ops [qmv nb 12 8 3,
 qbo nb 13 .lss 3 12 (qi 4) 3 4]) (
   .cond (qt 13) (
    .skip) (
    .exit 0))) (
   .seq (
   .block 1 (
    .seq (
    .ops [sop nb 9 (.assign (.const (.bool false))) 4]) (
    .seq (
    .seq (
    .ops [sop nb 10 (.assign (qi 0)) 3]) (
    .block 2 (
     .loop (
      .seq (
      .seq (
      .ops [qmv nb 16 10 3,
 sop nb 17 (.fieldAddr 24 (qt 3) 0) 0,
 qld nb 18 3 17,
 qbo nb 19 .lss 3 16 (qt 18) 3 4]) (
      .cond (qt 19) (
       .skip) (
       .exit 2))) (
      .seq (
      .block 3 (
       .ops [qmv nb 22 9 4,
 qmv nb 23 22 4,
 gop nb 24 (.load 24 (qt 3)) 24 23 false,
 gop nb 25 (.move (qt 1)) 3 23 false,
 gop nb 26 (.move (qt 2)) 3 23 false,
 gop nb 27 (.move (qt 8)) 3 23 false,
 gop nb 28 (.move (qt 10)) 3 23 false,
 gop nb 29 (.call { callee := .value (.func 83), args := #[qt 24, qt 25, qt 26, qt 27, qt 28], argTypes := #[24, 3, 3, 3, 3] }) 4 23 false,
 sop nb 30 (.pick (qt 23) (.const (.bool true)) (qt 29)) 4,
 qsg nb 9 30 4])) (
      .ops [qmv nb 20 10 3,
 qbo nb 21 .add 3 20 (qi 1) 3 3,
 qsg nb 10 21 3])))))) (
    .seq (
    .ops [qmv nb 31 9 4]) (
    .cond (qt 31) (
     .ops [qmv nb 32 7 26,
 qmv nb 33 8 3,
 sop nb 34 (.buildSlice 26 1 #[(0, qt 33)]) 26,
 sop nb 35 (.call { callee := .builtin .append, args := #[qt 32, qt 34], argTypes := #[26, 26] }) 26,
 qsg nb 7 35 26]) (
     .skip)))))) (
   .ops [qmv nb 14 8 3,
 qbo nb 15 .add 3 14 (qi 1) 3 3,
 qsg nb 8 15 3])))))) (
 .seq (
 .ops [qmv nb 36 7 26,
 qsg nb 6 36 26]) (
 .ret))))
noncomputable def c56 (nb : Nat) : SC :=
 .seq (
 .ops [sop nb 3 (.box 24 (qt 0)) 0,
 sop nb 6 (.assign (.const (.slice none 0 0))) 26,
 sop nb 7 (.assign (qi 0)) 3,
 sop nb 8 (.assign (.const (.bool false))) 4]) (
 .seq (
 .ops [sop nb 15 (.buildSlice 26 0 #[]) 26,
 qsg nb 9 15 26,
 sop nb 10 (.assign (qi 0)) 3]) (
 .seq (
 .seq (
 .ops [sop nb 11 (.assign (qi 0)) 3]) (
 .block 0 (
  .loop (
   .seq (
   .seq (
   .ops [qmv nb 16 11 3,
 qmv nb 17 1 26,
 qln nb 18 #[qt 17] #[26] 3,
 qbo nb 19 .lss 3 16 (qt 18) 3 4]) (
   .cond (qt 19) (
    .skip) (
    .exit 0))) (
   .seq (
   .block 1 (
    .seq (
    .ops [qld nb 22 24 3,
 qmv nb 23 1 26,
 qmv nb 24 11 3,
 qix nb 25 26 23 24 0,
 qld nb 26 3 25,
 qmv nb 27 2 26,
 qmv nb 28 11 3,
 qix nb 29 26 27 28 0,
 qld nb 30 3 29,
 qcl nb 31 55 #[qt 22, qt 26, qt 30] #[24, 3, 3] 26,
 qsg nb 12 31 26]) (
    .seq (
    .seq (
    .ops [qmv nb 32 12 26,
 qln nb 33 #[qt 32] #[26] 3,
 qbo nb 34 .eql 3 33 (qi 0) 3 4]) (
    .cond (qt 34) (
     .seq (
     .ops [sop nb 6 (.assign (.const (.slice none 0 0))) 26,
 sop nb 7 (.assign (qi 0)) 3,
 sop nb 8 (.assign (.const (.bool false))) 4]) (
     .ret)) (
     .skip))) (
    .seq (
    .ops [qmv nb 35 12 26,
 sop nb 36 (.indexAddr 26 (qt 35) (qi 0)) 0,
 qld nb 37 3 36,
 qsg nb 13 37 3]) (
    .seq (
    .seq (
    .ops [sop nb 14 (.assign (qi 0)) 3]) (
    .block 2 (
     .loop (
      .seq (
      .seq (
      .ops [qmv nb 38 14 3,
 qmv nb 39 12 26,
 qln nb 40 #[qt 39] #[26] 3,
 qbo nb 41 .lss 3 38 (qt 40) 3 4]) (
      .cond (qt 41) (
       .skip) (
       .exit 2))) (
      .seq (
      .block 3 (
       .seq (
       .ops [qmv nb 44 12 26,
 qmv nb 45 14 3,
 qix nb 46 26 44 45 0,
 qld nb 47 3 46,
 qcl nb 48 84 #[qt 47] #[3] 3,
 qmv nb 49 13 3,
 qcl nb 50 84 #[qt 49] #[3] 3,
 qbo nb 51 .lss 3 48 (qt 50) 3 4]) (
       .cond (qt 51) (
        .ops [qmv nb 52 12 26,
 qmv nb 53 14 3,
 qix nb 54 26 52 53 0,
 qld nb 55 3 54,
 qsg nb 13 55 3]) (
        .skip)))) (
      .ops [qmv nb 42 14 3,
 qbo nb 43 .add 3 42 (qi 1) 3 3,
 qsg nb 14 43 3])))))) (
    .ops [qmv nb 56 9 26,
 qmv nb 57 13 3,
 sop nb 58 (.buildSlice 26 1 #[(0, qt 57)]) 26,
 sop nb 59 (.call { callee := .builtin .append, args := #[qt 56, qt 58], argTypes := #[26, 26] }) 26,
 qmv nb 60 10 3,
 qmv nb 61 13 3,
 qcl nb 62 84 #[qt 61] #[3] 3,
 qbo nb 63 .add 3 60 (qt 62) 3 3,
 qsg nb 9 59 26,
 qsg nb 10 63 3])))))) (
   .ops [qmv nb 20 11 3,
 qbo nb 21 .add 3 20 (qi 1) 3 3,
 qsg nb 11 21 3])))))) (
 .seq (
 .ops [qmv nb 64 9 26,
 qmv nb 65 10 3,
 qsg nb 6 64 26,
 qsg nb 7 65 3,
 sop nb 8 (.assign (.const (.bool true))) 4]) (
 .ret))))
noncomputable def c68 (nb : Nat) : SC :=
 .seq (
 .ops [sop nb 2 (.box 24 (qt 0)) 0,
 sop nb 4 (.assign (qi 0)) 3]) (
 .seq (
 .seq (
 .ops [sop nb 5 (.assign (qi 0)) 3]) (
 .block 0 (
  .loop (
   .seq (
   .seq (
   .ops [qmv nb 6 5 3,
 sop nb 7 (.fieldAddr 24 (qt 2) 1) 0,
 qld nb 8 22 7,
 qln nb 9 #[qt 8] #[22] 3,
 qbo nb 10 .lss 3 6 (qt 9) 3 4]) (
   .cond (qt 10) (
    .skip) (
    .exit 0))) (
   .seq (
   .block 1 (
    .seq (
    .seq (
    .ops [sop nb 13 (.fieldAddr 24 (qt 2) 1) 0,
 qld nb 14 22 13,
 qmv nb 15 5 3,
 qix nb 16 22 14 15 0,
 sop nb 17 (.fieldAddr 115 (qt 16) 0) 0,
 qld nb 18 3 17,
 qmv nb 19 1 3,
 qbo nb 20 .eql 3 18 (qt 19) 3 4]) (
    .cond (qt 20) (
     .seq (
     .ops [sop nb 21 (.fieldAddr 24 (qt 2) 1) 0,
 qld nb 22 22 21,
 qmv nb 23 5 3,
 qix nb 24 22 22 23 0,
 sop nb 25 (.fieldAddr 115 (qt 24) 1) 0,
 qld nb 26 3 25,
 qsg nb 4 26 3]) (
     .ret)) (
     .skip))) (
    .seq (
    .ops [sop nb 27 (.fieldAddr 24 (qt 2) 1) 0,
 qld nb 28 22 27,
 qmv nb 29 5 3,
 qix nb 30 22 28 29 0,
 sop nb 31 (.fieldAddr 115 (qt 30) 1) 0,
 qld nb 32 3 31,
 qmv nb 33 1 3,
 qbo nb 34 .eql 3 32 (qt 33) 3 4]) (
    .cond (qt 34) (
     .seq (
     .ops [sop nb 35 (.fieldAddr 24 (qt 2) 1) 0,
 qld nb 36 22 35,
 qmv nb 37 5 3,
 qix nb 38 22 36 37 0,
 sop nb 39 (.fieldAddr 115 (qt 38) 0) 0,
 qld nb 40 3 39,
 qsg nb 4 40 3]) (
     .ret)) (
     .skip))))) (
   .ops [qmv nb 11 5 3,
 qbo nb 12 .add 3 11 (qi 1) 3 3,
 qsg nb 5 12 3])))))) (
 .seq (
 .ops [sop nb 4 (.assign (qi (-1))) 3]) (
 .ret)))
noncomputable def c76 (nb : Nat) : SC :=
 .seq (
 .ops [sop nb 4 (.assign (.const (.bool false))) 4]) (
 .seq (
 .seq (
 .ops [sop nb 5 (.assign (qi 0)) 3]) (
 .block 0 (
  .loop (
   .seq (
   .seq (
   .ops [qmv nb 6 5 3,
 qmv nb 7 0 26,
 qln nb 8 #[qt 7] #[26] 3,
 qbo nb 9 .lss 3 6 (qt 8) 3 4]) (
   .cond (qt 9) (
    .skip) (
    .exit 0))) (
   .seq (
   .block 1 (
    .seq (
    .ops [qmv nb 12 0 26,
 qmv nb 13 5 3,
 qix nb 14 26 12 13 0,
 qld nb 15 3 14,
 qmv nb 16 1 3,
 qbo nb 17 .eql 3 15 (qt 16) 3 4]) (
    .cond (qt 17) (
     .seq (
     .ops [sop nb 4 (.assign (.const (.bool true))) 4]) (
     .ret)) (
     .skip)))) (
   .ops [qmv nb 10 5 3,
 qbo nb 11 .add 3 10 (qi 1) 3 3,
 qsg nb 5 11 3])))))) (
 .seq (
 .ops [sop nb 4 (.assign (.const (.bool false))) 4]) (
 .ret)))
@[go_sem] theorem rs76 : Go.Proofs.Try.f76.results.toList = [.tmp 4] := by kernel_rfl
theorem k76 (nb : Nat) : sk nb Go.Proofs.Try.f76.ntmps (Go.Proofs.Try.f76.body.getD .skip) = some (c76 nb) := by kernel_rfl
theorem w76 {a : List Arg} {r : RV} (h : W Q (c76 0) [] ⟨ρ0 (a.map fun a => a.m.lv), h0⟩ (retG Q Go.Proofs.Try.f76.results.toList (retF r))) (l : Nat.ble a.length Go.Proofs.Try.f76.ntmps = true := by kernel_rfl) : Fn Q 76 a r := fn_intro Go.Proofs.Try.func76 rfl (by kernel_rfl) mix (k76 0) (Nat.le_of_ble_eq_true l) h
noncomputable def c83 (nb : Nat) : SC :=
 .seq (
 .ops [sop nb 5 (.box 24 (qt 0)) 0,
 sop nb 10 (.assign (.const (.bool false))) 4]) (
 .seq (
 .seq (
 .ops [qmv nb 11 3 3,
 qbo nb 12 .leq 3 11 (qi 1) 3 4,
 qmv nb 13 12 4,
 gop nb 14 (.move (qt 4)) 3 13 true,
 gop nb 15 (.move (qt 1)) 3 13 true,
 gop nb 16 (.binOp .neq 3 (qt 14) (qt 15) 3) 4 13 true,
 sop nb 17 (.pick (qt 13) (qt 16) (.const (.bool false))) 4,
 qmv nb 18 17 4,
 gop nb 19 (.move (qt 3)) 3 18 false,
 gop nb 20 (.binOp .geq 3 (qt 19) (qi 2) 3) 4 18 false,
 gop nb 21 (.move (qt 20)) 4 18 false,
 gop nb 22 (.load 24 (qt 5)) 24 21 true,
 gop nb 23 (.move (qt 1)) 3 21 true,
 gop nb 24 (.move (qt 4)) 3 21 true,
 gop nb 25 (.call { callee := .value (.func 103), args := #[qt 22, qt 23, qt 24], argTypes := #[24, 3, 3] }) 4 21 true,
 gop nb 26 (.unOp .not 4 (qt 25)) 4 21 true,
 gop nb 27 (.pick (qt 21) (qt 26) (.const (.bool false))) 4 18 false,
 sop nb 28 (.pick (qt 18) (.const (.bool true)) (qt 27)) 4]) (
 .cond (qt 28) (
  .seq (
  .ops [sop nb 10 (.assign (.const (.bool false))) 4]) (
  .ret)) (
  .skip))) (
 .seq (
 .seq (
 .ops [qmv nb 29 3 3,
 qbo nb 30 .rem 3 29 (qi 2) 3 3,
 qbo nb 31 .eql 3 30 (qi 1) 3 4]) (
 .cond (qt 31) (
  .seq (
  .ops [qld nb 32 24 5,
 qmv nb 33 4 3,
 qcl nb 34 68 #[qt 32, qt 33] #[24, 3] 3,
 qmv nb 35 2 3,
 qbo nb 36 .eql 3 34 (qt 35) 3 4,
 qsg nb 10 36 4]) (
  .ret)) (
  .skip))) (
 .seq (
 .ops [qmv nb 37 4 3,
 qmv nb 38 2 3,
 qbo nb 39 .eql 3 37 (qt 38) 3 4,
 qsg nb 10 39 4]) (
 .ret))))
noncomputable def c84 (nb : Nat) : SC :=
 .seq (
 .ops [sop nb 2 (.assign (qi 0)) 3]) (
 .seq (
 .seq (
 .ops [qmv nb 3 0 3,
 qbo nb 4 .geq 3 3 (qi 2) 3 4]) (
 .cond (qt 4) (
  .seq (
  .ops [qmv nb 5 0 3,
 qbo nb 6 .sub 3 5 (qi 1) 3 3,
 qsg nb 2 6 3]) (
  .ret)) (
  .skip))) (
 .seq (
 .ops [qmv nb 7 0 3,
 qsg nb 2 7 3]) (
 .ret)))
noncomputable def c103 (nb : Nat) : SC :=
 .seq (
 .ops [sop nb 3 (.box 24 (qt 0)) 0,
 sop nb 6 (.assign (.const (.bool false))) 4]) (
 .seq (
 .seq (
 .ops [sop nb 7 (.assign (qi 0)) 3]) (
 .block 0 (
  .loop (
   .seq (
   .seq (
   .ops [qmv nb 9 7 3,
 sop nb 10 (.fieldAddr 24 (qt 3) 2) 0,
 qld nb 11 22 10,
 qln nb 12 #[qt 11] #[22] 3,
 qbo nb 13 .lss 3 9 (qt 12) 3 4]) (
   .cond (qt 13) (
    .skip) (
    .exit 0))) (
   .seq (
   .block 1 (
    .seq (
    .ops [sop nb 16 (.fieldAddr 24 (qt 3) 2) 0,
 qld nb 17 22 16,
 qmv nb 18 7 3,
 qix nb 19 22 17 18 0,
 qld nb 20 115 19,
 sop nb 8 (.alloc 115) 0,
 nop (.store 115 (qt 8) (qt 20)) 0]) (
    .seq (
    .ops [sop nb 21 (.fieldAddr 115 (qt 8) 0) 0,
 qld nb 22 3 21,
 qmv nb 23 1 3,
 qbo nb 24 .eql 3 22 (qt 23) 3 4,
 qmv nb 25 24 4,
 gop nb 26 (.fieldAddr 115 (qt 8) 1) 0 25 true,
 gop nb 27 (.load 3 (qt 26)) 3 25 true,
 gop nb 28 (.move (qt 2)) 3 25 true,
 gop nb 29 (.binOp .eql 3 (qt 27) (qt 28) 3) 4 25 true,
 sop nb 30 (.pick (qt 25) (qt 29) (.const (.bool false))) 4,
 qmv nb 31 30 4,
 gop nb 32 (.fieldAddr 115 (qt 8) 0) 0 31 false,
 gop nb 33 (.load 3 (qt 32)) 3 31 false,
 gop nb 34 (.move (qt 2)) 3 31 false,
 gop nb 35 (.binOp .eql 3 (qt 33) (qt 34) 3) 4 31 false,
 gop nb 36 (.move (qt 35)) 4 31 false,
 gop nb 37 (.fieldAddr 115 (qt 8) 1) 0 36 true,
 gop nb 38 (.load 3 (qt 37)) 3 36 true,
 gop nb 39 (.move (qt 1)) 3 36 true,
 gop nb 40 (.binOp .eql 3 (qt 38) (qt 39) 3) 4 36 true,
 gop nb 41 (.pick (qt 36) (qt 40) (.const (.bool false))) 4 31 false,
 sop nb 42 (.pick (qt 31) (.const (.bool true)) (qt 41)) 4]) (
    .cond (qt 42) (
     .seq (
     .ops [sop nb 6 (.assign (.const (.bool true))) 4]) (
     .ret)) (
     .skip))))) (
   .ops [qmv nb 14 7 3,
 qbo nb 15 .add 3 14 (qi 1) 3 3,
 qsg nb 7 15 3])))))) (
 .seq (
 .ops [sop nb 6 (.assign (.const (.bool false))) 4]) (
 .ret)))
end S07

namespace S07
open Go Abs
noncomputable def c33 (nb : Nat) : SC :=
 .seq (
 .ops [sop nb 4 (.box 24 (qt 0)) 0,
 sop nb 8 (.assign (.const (.slice none 0 0))) 26,
 sop nb 9 (.assign (.const (.bool false))) 4]) (
 .seq (
 .seq (
 .ops [qmv nb 14 3 3,
 qmv nb 15 2 26,
 qln nb 16 #[qt 15] #[26] 3,
 qbo nb 17 .eql 3 14 (qt 16) 3 4]) (
 .cond (qt 17) (
  .seq (
  .ops [sop nb 8 (.assign (.const (.slice none 0 0))) 26,
 sop nb 9 (.assign (.const (.bool true))) 4]) (
  .ret)) (
  .skip))) (
 .seq (
 .seq (
 .ops [sop nb 10 (.assign (qi 0)) 3]) (
 .block 0 (
  .loop (
   .seq (
   .seq (
   .ops [qmv nb 18 10 3,
 sop nb 19 (.fieldAddr 24 (qt 4) 0) 0,
 qld nb 20 3 19,
 qbo nb 21 .lss 3 18 (qt 20) 3 4]) (
   .cond (qt 21) (
    .skip) (
    .exit 0))) (
   .seq (
   .block 1 (
    .seq (
    .seq (
    .opsD [qmv nb 24 10 3,
 qmv nb 25 2 26,
 qmv nb 26 3 3,
 qix nb 27 26 25 26 0,
 qld nb 28 3 27,
 qbo nb 29 .neq 3 24 (qt 28) 3 4,
 qmv nb 30 29 4,
 gop nb 31 (.load 24 (qt 4)) 24 30 true,
 gop nb 32 (.move (qt 10)) 3 30 true,
 gop nb 33 (.call { callee := .value (.func 68), args := #[qt 31, qt 32], argTypes := #[24, 3] }) 3 30 true,
 gop nb 34 (.move (qt 2)) 26 30 true,
 gop nb 35 (.move (qt 3)) 3 30 true,
 gop nb 36 (.indexAddr 26 (qt 34) (qt 35)) 0 30 true,
 gop nb 37 (.load 3 (qt 36)) 3 30 true,
 gop nb 38 (.binOp .neq 3 (qt 33) (qt 37) 3) 4 30 true,
 sop nb 39 (.pick (qt 30) (qt 38) (.const (.bool false))) 4,
 qmv nb 40 39 4,
 gop nb 41 (.move (qt 1)) 26 40 false,
 gop nb 42 (.move (qt 10)) 3 40 false,
 gop nb 43 (.indexAddr 26 (qt 41) (qt 42)) 0 40 false,
 gop nb 44 (.load 3 (qt 43)) 3 40 false,
 gop nb 45 (.binOp .eql 3 (qt 44) (qi 0) 3) 4 40 false,
 sop nb 46 (.pick (qt 40) (.const (.bool true)) (qt 45)) 4] [(9, 12), (9, 13)]) (
    .cond (qt 46) (
     .exit 1) (
     .skip))) (
    .seq (
    .ops [sop nb 47 (.buildSlice 26 0 #[]) 26,
 qmv nb 48 1 26,
 sop nb 49 (.call { callee := .builtin .append, args := #[qt 47, qt 48], argTypes := #[26, 26] }) 26,
 qsg nb 11 49 26]) (
    .seq (
    .ops [qmv nb 50 11 26,
 qmv nb 51 10 3,
 qix nb 52 26 50 51 0,
 qld nb 53 3 52,
 qbo nb 54 .sub 3 53 (qi 1) 3 3,
 qix nb 55 26 50 51 0,
 nop (.store 3 (qt 55) (qt 54)) 0]) (
    .seq (
    .ops [qld nb 57 24 4,
 qmv nb 58 11 26,
 qmv nb 59 2 26,
 qmv nb 60 3 3,
 qbo nb 61 .add 3 60 (qi 1) 3 3,
 qcl nb 62 33 #[qt 57, qt 58, qt 59, qt 61] #[24, 26, 26, 3] 51,
 qmv nb 56 62 51,
 qex nb 63 56 0 26,
 qex nb 64 56 1 4,
 qsg nb 12 63 26,
 qsg nb 13 64 4]) (
    .seq (
    .ops [qmv nb 65 13 4]) (
    .cond (qt 65) (
     .seq (
     .ops [qmv nb 66 10 3,
 sop nb 67 (.buildSlice 26 1 #[(0, qt 66)]) 26,
 qmv nb 68 12 26,
 sop nb 69 (.call { callee := .builtin .append, args := #[qt 67, qt 68], argTypes := #[26, 26] }) 26,
 qsg nb 8 69 26,
 sop nb 9 (.assign (.const (.bool true))) 4]) (
     .ret)) (
     .skip)))))))) (
   .ops [qmv nb 22 10 3,
 qbo nb 23 .add 3 22 (qi 1) 3 3,
 qsg nb 10 23 3])))))) (
 .seq (
 .ops [sop nb 8 (.assign (.const (.slice none 0 0))) 26,
 sop nb 9 (.assign (.const (.bool false))) 4]) (
 .ret))))
noncomputable def c34 (nb : Nat) : SC :=
 .seq (
 .ops [sop nb 3 (.box 24 (qt 0)) 0,
 sop nb 6 (.assign (.const (.slice none 0 0))) 26]) (
 .seq (
 .ops [sop nb 15 (.buildSlice 26 0 #[]) 26,
 qsg nb 7 15 26,
 sop nb 8 (.assign (.const (.bool false))) 4]) (
 .seq (
 .seq (
 .ops [sop nb 9 (.assign (qi 0)) 3]) (
 .block 0 (
  .loop (
   .seq (
   .seq (
   .ops [qmv nb 16 9 3,
 qmv nb 17 2 26,
 qln nb 18 #[qt 17] #[26] 3,
 sop nb 19 (.convert 3 102 (qt 18)) 102,
 sop nb 20 (.binOp .shl 3 (qi 1) (qt 19) 102) 3,
 qbo nb 21 .lss 3 16 (qt 20) 3 4]) (
   .cond (qt 21) (
    .skip) (
    .exit 0))) (
   .seq (
   .block 1 (
    .seq (
    .ops [qmv nb 24 9 3,
 qmv nb 25 2 26,
 qln nb 26 #[qt 25] #[26] 3,
 qcl nb 27 69 #[qt 24, qt 26] #[3, 3] 26,
 sop nb 28 (.buildSlice 26 0 #[]) 26,
 qsg nb 10 27 26,
 qsg nb 11 28 26]) (
    .seq (
    .seq (
    .ops [sop nb 12 (.assign (qi 0)) 3]) (
    .block 2 (
     .loop (
      .seq (
      .seq (
      .ops [qmv nb 29 12 3,
 qmv nb 30 2 26,
 qln nb 31 #[qt 30] #[26] 3,
 qbo nb 32 .lss 3 29 (qt 31) 3 4]) (
      .cond (qt 32) (
       .skip) (
       .exit 2))) (
      .seq (
      .block 3 (
       .seq (
       .ops [qmv nb 35 9 3,
 qmv nb 36 12 3,
 sop nb 37 (.convert 3 102 (qt 36)) 102,
 qbo nb 38 .shr 3 35 (qt 37) 102 3,
 qbo nb 39 .and 3 38 (qi 1) 3 3,
 qbo nb 40 .eql 3 39 (qi 0) 3 4]) (
       .cond (qt 40) (
        .ops [qmv nb 41 11 26,
 qmv nb 42 2 26,
 qmv nb 43 12 3,
 qix nb 44 26 42 43 0,
 qld nb 45 3 44,
 sop nb 46 (.buildSlice 26 1 #[(0, qt 45)]) 26,
 sop nb 47 (.call { callee := .builtin .append, args := #[qt 41, qt 46], argTypes := #[26, 26] }) 26,
 qsg nb 11 47 26]) (
        .skip)))) (
      .ops [qmv nb 33 12 3,
 qbo nb 34 .add 3 33 (qi 1) 3 3,
 qsg nb 12 34 3])))))) (
    .seq (
    .seq (
    .ops [qmv nb 48 8 4,
 qmv nb 49 48 4,
 gop nb 50 (.move (qt 10)) 26 49 true,
 gop nb 51 (.call { callee := .builtin .len, args := #[qt 50], argTypes := #[26] }) 3 49 true,
 gop nb 52 (.move (qt 7)) 26 49 true,
 gop nb 53 (.call { callee := .builtin .len, args := #[qt 52], argTypes := #[26] }) 3 49 true,
 gop nb 54 (.binOp .gtr 3 (qt 51) (qt 53) 3) 4 49 true,
 gop nb 55 (.move (qt 54)) 4 49 true,
 gop nb 56 (.move (qt 10)) 26 55 false,
 gop nb 57 (.call { callee := .builtin .len, args := #[qt 56], argTypes := #[26] }) 3 55 false,
 gop nb 58 (.move (qt 7)) 26 55 false,
 gop nb 59 (.call { callee := .builtin .len, args := #[qt 58], argTypes := #[26] }) 3 55 false,
 gop nb 60 (.binOp .eql 3 (qt 57) (qt 59) 3) 4 55 false,
 gop nb 61 (.move (qt 60)) 4 55 false,
 gop nb 62 (.move (qt 10)) 26 61 true,
 gop nb 63 (.move (qt 7)) 26 61 true,
 gop nb 64 (.call { callee := .value (.func 62), args := #[qt 62, qt 63], argTypes := #[26, 26] }) 3 61 true,
 gop nb 65 (.binOp .gtr 3 (qt 64) (qi 0) 3) 4 61 true,
 gop nb 66 (.pick (qt 61) (qt 65) (.const (.bool false))) 4 55 false,
 gop nb 67 (.pick (qt 55) (.const (.bool true)) (qt 66)) 4 49 true,
 sop nb 68 (.pick (qt 49) (qt 67) (.const (.bool false))) 4]) (
    .cond (qt 68) (
     .exit 1) (
     .skip))) (
    .seq (
    .ops [qld nb 70 24 3,
 qmv nb 71 1 26,
 qmv nb 72 11 26,
 qcl nb 73 33 #[qt 70, qt 71, qt 72, qi 0] #[24, 26, 26, 3] 51,
 qmv nb 69 73 51,
 qex nb 74 69 0 26,
 qex nb 75 69 1 4,
 qsg nb 13 74 26,
 qsg nb 14 75 4]) (
    .seq (
    .ops [qmv nb 76 14 4]) (
    .cond (qt 76) (
     .ops [qmv nb 77 10 26,
 qsg nb 7 77 26,
 sop nb 8 (.assign (.const (.bool true))) 4]) (
     .skip)))))))) (
   .ops [qmv nb 22 9 3,
 qbo nb 23 .add 3 22 (qi 1) 3 3,
 qsg nb 9 23 3])))))) (
 .seq (
 .ops [qmv nb 78 7 26,
 qsg nb 6 78 26]) (
 .ret))))
noncomputable def c69 (nb : Nat) : SC :=
 .seq (
 .ops [sop nb 4 (.assign (.const (.slice none 0 0))) 26]) (
 .seq (
 .ops [sop nb 7 (.buildSlice 26 0 #[]) 26,
 qsg nb 5 7 26]) (
 .seq (
 .seq (
 .ops [sop nb 6 (.assign (qi 0)) 3]) (
 .block 0 (
  .loop (
   .seq (
   .seq (
   .ops [qmv nb 8 6 3,
 qmv nb 9 1 3,
 qbo nb 10 .lss 3 8 (qt 9) 3 4]) (
   .cond (qt 10) (
    .skip) (
    .exit 0))) (
   .seq (
   .block 1 (
    .seq (
    .ops [qmv nb 13 0 3,
 qmv nb 14 6 3,
 sop nb 15 (.convert 3 102 (qt 14)) 102,
 qbo nb 16 .shr 3 13 (qt 15) 102 3,
 qbo nb 17 .and 3 16 (qi 1) 3 3,
 qbo nb 18 .eql 3 17 (qi 1) 3 4]) (
    .cond (qt 18) (
     .ops [qmv nb 19 5 26,
 qmv nb 20 6 3,
 sop nb 21 (.buildSlice 26 1 #[(0, qt 20)]) 26,
 sop nb 22 (.call { callee := .builtin .append, args := #[qt 19, qt 21], argTypes := #[26, 26] }) 26,
 qsg nb 5 22 26]) (
     .skip)))) (
   .ops [qmv nb 11 6 3,
 qbo nb 12 .add 3 11 (qi 1) 3 3,
 qsg nb 6 12 3])))))) (
 .seq (
 .ops [qmv nb 23 5 26,
 qsg nb 4 23 26]) (
 .ret))))
@[go_sem] theorem rs69 : Go.Proofs.Try.f69.results.toList = [.tmp 4] := by kernel_rfl
theorem k69 (nb : Nat) : sk nb Go.Proofs.Try.f69.ntmps (Go.Proofs.Try.f69.body.getD .skip) = some (c69 nb) := by kernel_rfl
theorem w69 {a : List Arg} {r : RV} (h : W Q (c69 0) [] ⟨ρ0 (a.map fun a => a.m.lv), h0⟩ (retG Q Go.Proofs.Try.f69.results.toList (retF r))) (l : Nat.ble a.length Go.Proofs.Try.f69.ntmps = true := by kernel_rfl) : Fn Q 69 a r := fn_intro Go.Proofs.Try.func69 rfl (by kernel_rfl) mix (k69 0) (Nat.le_of_ble_eq_true l) h
end S07

namespace S07
open Go Abs
noncomputable def c39 (nb : Nat) : SC :=
 .seq (
 .ops [sop nb 4 (.box 24 (qt 0)) 0,
 sop nb 8 (.assign (qi 0)) 34]) (
 .seq (
 .seq (
 .ops [qmv nb 10 1 25,
 qln nb 11 #[qt 10] #[25] 3,
 qbo nb 12 .gtr 3 11 (qi 4) 3 4]) (
 .cond (qt 12) (
  .seq (
  .ops [sop nb 8 (.assign (qi 5)) 34]) (
  .ret)) (
  .skip))) (
 .seq (
 .seq (
 .ops [sop nb 9 (.assign (qi 0)) 3]) (
 .block 0 (
  .loop (
   .seq (
   .seq (
   .ops [qmv nb 13 9 3,
 qmv nb 14 1 25,
 qln nb 15 #[qt 14] #[25] 3,
 qbo nb 16 .lss 3 13 (qt 15) 3 4]) (
   .cond (qt 16) (
    .skip) (
    .exit 0))) (
   .seq (
   .block 1 (
    .seq (
    .ops [qld nb 19 24 4,
 qmv nb 20 1 25,
 qmv nb 21 9 3,
 qix nb 22 25 20 21 0,
 qld nb 23 26 22,
 qcl nb 24 32 #[qt 19, qt 23, qi 5] #[24, 26, 3] 4,
 sop nb 25 (.unOp .not 4 (qt 24)) 4]) (
    .cond (qt 25) (
     .seq (
     .ops [sop nb 8 (.assign (qi 4)) 34]) (
     .ret)) (
     .skip)))) (
   .ops [qmv nb 17 9 3,
 qbo nb 18 .add 3 17 (qi 1) 3 3,
 qsg nb 9 18 3])))))) (
 .seq (
 .seq (
 .ops [qld nb 26 24 4,
 qmv nb 27 2 26,
 qcl nb 28 32 #[qt 26, qt 27, qi 20] #[24, 26, 3] 4,
 sop nb 29 (.unOp .not 4 (qt 28)) 4]) (
 .cond (qt 29) (
  .seq (
  .ops [sop nb 8 (.assign (qi 4)) 34]) (
  .ret)) (
  .skip))) (
 .seq (
 .seq (
 .ops [qmv nb 30 3 3,
 qcl nb 31 26 #[qt 30, qi 0, qi 20] #[3, 3, 3] 4,
 sop nb 32 (.unOp .not 4 (qt 31)) 4]) (
 .cond (qt 32) (
  .seq (
  .ops [sop nb 8 (.assign (qi 3)) 34]) (
  .ret)) (
  .skip))) (
 .seq (
 .ops [sop nb 8 (.assign (qi 0)) 34]) (
 .ret))))))
@[go_sem] theorem rs39 : Go.Proofs.Try.f39.results.toList = [.tmp 8] := by kernel_rfl
theorem k39 (nb : Nat) : sk nb Go.Proofs.Try.f39.ntmps (Go.Proofs.Try.f39.body.getD .skip) = some (c39 nb) := by kernel_rfl
theorem w39 {a : List Arg} {r : RV} (h : W Q (c39 0) [] ⟨ρ0 (a.map fun a => a.m.lv), h0⟩ (retG Q Go.Proofs.Try.f39.results.toList (retF r))) (l : Nat.ble a.length Go.Proofs.Try.f39.ntmps = true := by kernel_rfl) : Fn Q 39 a r := fn_intro Go.Proofs.Try.func39 rfl (by kernel_rfl) mix (k39 0) (Nat.le_of_ble_eq_true l) h
noncomputable def c40 (nb : Nat) : SC :=
 .seq (
 .ops [sop nb 4 (.box 24 (qt 0)) 0,
 sop nb 8 (.assign (.const (.slice none 0 0))) 25]) (
 .seq (
 .ops [sop nb 19 (.buildSlice 25 0 #[]) 25,
 qsg nb 9 19 25]) (
 .seq (
 .seq (
 .ops [sop nb 10 (.assign (qi 1)) 3]) (
 .block 0 (
  .loop (
   .seq (
   .seq (
   .ops [qmv nb 20 10 3,
 qmv nb 21 1 25,
 qln nb 22 #[qt 21] #[25] 3,
 sop nb 23 (.convert 3 102 (qt 22)) 102,
 sop nb 24 (.binOp .shl 3 (qi 1) (qt 23) 102) 3,
 qbo nb 25 .lss 3 20 (qt 24) 3 4]) (
   .cond (qt 25) (
    .skip) (
    .exit 0))) (
   .seq (
   .block 1 (
    .seq (
    .ops [qmv nb 28 10 3,
 qmv nb 29 1 25,
 qln nb 30 #[qt 29] #[25] 3,
 qcl nb 31 69 #[qt 28, qt 30] #[3, 3] 26,
 qsg nb 11 31 26,
 sop nb 12 (.assign (qi 0)) 3,
 sop nb 13 (.assign (.const (.bool true))) 4]) (
    .seq (
    .seq (
    .ops [sop nb 14 (.assign (qi 0)) 3]) (
    .block 2 (
     .loop (
      .seq (
      .seq (
      .ops [qmv nb 32 14 3,
 sop nb 33 (.fieldAddr 24 (qt 4) 0) 0,
 qld nb 34 3 33,
 qbo nb 35 .lss 3 32 (qt 34) 3 4]) (
      .cond (qt 35) (
       .skip) (
       .exit 2))) (
      .seq (
      .block 3 (
       .seq (
       .ops [qmv nb 38 2 26,
 qmv nb 39 14 3,
 qix nb 40 26 38 39 0,
 qld nb 41 3 40,
 sop nb 42 (.unOp .neg 3 (qt 41)) 3,
 qsg nb 15 42 3]) (
       .seq (
       .seq (
       .ops [sop nb 16 (.assign (qi 0)) 3]) (
       .block 4 (
        .loop (
         .seq (
         .seq (
         .ops [qmv nb 43 16 3,
 qmv nb 44 11 26,
 qln nb 45 #[qt 44] #[26] 3,
 qbo nb 46 .lss 3 43 (qt 45) 3 4]) (
         .cond (qt 46) (
          .skip) (
          .exit 4))) (
         .seq (
         .block 5 (
          .ops [qmv nb 49 15 3,
 qmv nb 50 1 25,
 qmv nb 51 11 26,
 qmv nb 52 16 3,
 qix nb 53 26 51 52 0,
 qld nb 54 3 53,
 qix nb 55 25 50 54 0,
 qld nb 56 26 55,
 qmv nb 57 14 3,
 qix nb 58 26 56 57 0,
 qld nb 59 3 58,
 qbo nb 60 .add 3 49 (qt 59) 3 3,
 qsg nb 15 60 3])) (
         .ops [qmv nb 47 16 3,
 qbo nb 48 .add 3 47 (qi 1) 3 3,
 qsg nb 16 48 3])))))) (
       .ops [qmv nb 61 12 3,
 qmv nb 62 15 3,
 qbo nb 63 .add 3 61 (qt 62) 3 3,
 qmv nb 64 13 4,
 qmv nb 65 64 4,
 gop nb 66 (.move (qt 15)) 3 65 true,
 gop nb 67 (.binOp .geq 3 (qt 66) (qi 0) 3) 4 65 true,
 sop nb 68 (.pick (qt 65) (qt 67) (.const (.bool false))) 4,
 qsg nb 12 63 3,
 qsg nb 13 68 4])))) (
      .ops [qmv nb 36 14 3,
 qbo nb 37 .add 3 36 (qi 1) 3 3,
 qsg nb 14 37 3])))))) (
    .seq (
    .seq (
    .ops [qmv nb 69 13 4,
 sop nb 70 (.unOp .not 4 (qt 69)) 4,
 qmv nb 71 70 4,
 gop nb 72 (.move (qt 12)) 3 71 false,
 gop nb 73 (.move (qt 3)) 3 71 false,
 gop nb 74 (.binOp .gtr 3 (qt 72) (qt 73) 3) 4 71 false,
 sop nb 75 (.pick (qt 71) (.const (.bool true)) (qt 74)) 4]) (
    .cond (qt 75) (
     .exit 1) (
     .skip))) (
    .seq (
    .ops [qmv nb 76 9 25,
 qln nb 77 #[qt 76] #[25] 3,
 qsg nb 17 77 3]) (
    .seq (
    .block 6 (
     .loop (
      .seq (
      .seq (
      .ops [qmv nb 78 17 3,
 qbo nb 79 .gtr 3 78 (qi 0) 3 4,
 qmv nb 80 79 4,
 gop nb 81 (.move (qt 11)) 26 80 true,
 gop nb 82 (.move (qt 9)) 25 80 true,
 gop nb 83 (.move (qt 17)) 3 80 true,
 gop nb 84 (.binOp .sub 3 (qt 83) (qi 1) 3) 3 80 true,
 gop nb 85 (.indexAddr 25 (qt 82) (qt 84)) 0 80 true,
 gop nb 86 (.load 26 (qt 85)) 26 80 true,
 gop nb 87 (.call { callee := .value (.func 62), args := #[qt 81, qt 86], argTypes := #[26, 26] }) 3 80 true,
 gop nb 88 (.binOp .lss 3 (qt 87) (qi 0) 3) 4 80 true,
 sop nb 89 (.pick (qt 80) (qt 88) (.const (.bool false))) 4]) (
      .cond (qt 89) (
       .skip) (
       .exit 6))) (
      .block 7 (
       .ops [qmv nb 90 17 3,
 qbo nb 91 .sub 3 90 (qi 1) 3 3,
 qsg nb 17 91 3]))))) (
    .seq (
    .ops [sop nb 92 (.buildSlice 25 0 #[]) 25,
 qmv nb 93 9 25,
 qmv nb 94 17 3,
 sop nb 95 (.slice 25 (qt 93) (some (qt 94)) none none) 25,
 sop nb 96 (.call { callee := .builtin .append, args := #[qt 92, qt 95], argTypes := #[25, 25] }) 25,
 qsg nb 18 96 25]) (
    .ops [qmv nb 97 9 25,
 qmv nb 98 17 3,
 sop nb 99 (.slice 25 (qt 97) none (some (qt 98)) none) 25,
 qmv nb 100 11 26,
 sop nb 101 (.buildSlice 25 1 #[(0, qt 100)]) 25,
 sop nb 102 (.call { callee := .builtin .append, args := #[qt 99, qt 101], argTypes := #[25, 25] }) 25,
 qmv nb 103 18 25,
 sop nb 104 (.call { callee := .builtin .append, args := #[qt 102, qt 103], argTypes := #[25, 25] }) 25,
 qsg nb 9 104 25])))))))) (
   .ops [qmv nb 26 10 3,
 qbo nb 27 .add 3 26 (qi 1) 3 3,
 qsg nb 10 27 3])))))) (
 .seq (
 .ops [qmv nb 105 9 25,
 qsg nb 8 105 25]) (
 .ret))))
@[go_sem] theorem rs40 : Go.Proofs.Try.f40.results.toList = [.tmp 8] := by kernel_rfl
theorem k40 (nb : Nat) : sk nb Go.Proofs.Try.f40.ntmps (Go.Proofs.Try.f40.body.getD .skip) = some (c40 nb) := by kernel_rfl
theorem w40 {a : List Arg} {r : RV} (h : W Q (c40 0) [] ⟨ρ0 (a.map fun a => a.m.lv), h0⟩ (retG Q Go.Proofs.Try.f40.results.toList (retF r))) (l : Nat.ble a.length Go.Proofs.Try.f40.ntmps = true := by kernel_rfl) : Fn Q 40 a r := fn_intro Go.Proofs.Try.func40 rfl (by kernel_rfl) mix (k40 0) (Nat.le_of_ble_eq_true l) h
noncomputable def c41 (nb : Nat) : SC :=
 .seq (
 .ops [sop nb 4 (.assign (.const (.slice none 0 0))) 26,
 sop nb 5 (.assign (.const (.slice none 0 0))) 26]) (
 .seq (
 .ops [sop nb 11 (.buildSlice 26 0 #[]) 26,
 sop nb 12 (.buildSlice 26 0 #[]) 26,
 qsg nb 6 11 26,
 qsg nb 7 12 26]) (
 .seq (
 .seq (
 .ops [sop nb 8 (.assign (qi 0)) 3]) (
 .block 0 (
  .loop (
   .seq (
   .seq (
   .ops [qmv nb 13 8 3,
 qmv nb 14 1 3,
 qbo nb 15 .lss 3 13 (qt 14) 3 4]) (
   .cond (qt 15) (
    .skip) (
    .exit 0))) (
   .seq (
   .block 1 (
    .seq (
    .ops [sop nb 9 (.assign (qi 0)) 3]) (
    .seq (
    .seq (
    .ops [sop nb 10 (.assign (qi 0)) 3]) (
    .block 2 (
     .loop (
      .seq (
      .seq (
      .ops [qmv nb 18 10 3,
 qmv nb 19 0 25,
 qln nb 20 #[qt 19] #[25] 3,
 qbo nb 21 .lss 3 18 (qt 20) 3 4]) (
      .cond (qt 21) (
       .skip) (
       .exit 2))) (
      .seq (
      .block 3 (
       .seq (
       .ops [qmv nb 24 0 25,
 qmv nb 25 10 3,
 qix nb 26 25 24 25 0,
 qld nb 27 26 26,
 qmv nb 28 8 3,
 qcl nb 29 76 #[qt 27, qt 28] #[26, 3] 4]) (
       .cond (qt 29) (
        .ops [qmv nb 30 9 3,
 qbo nb 31 .add 3 30 (qi 1) 3 3,
 qsg nb 9 31 3]) (
        .skip)))) (
      .ops [qmv nb 22 10 3,
 qbo nb 23 .add 3 22 (qi 1) 3 3,
 qsg nb 10 23 3])))))) (
    .seq (
    .seq (
    .ops [qmv nb 32 9 3,
 qmv nb 33 0 25,
 qln nb 34 #[qt 33] #[25] 3,
 qbo nb 35 .eql 3 32 (qt 34) 3 4]) (
    .cond (qt 35) (
     .ops [qmv nb 36 6 26,
 qmv nb 37 8 3,
 sop nb 38 (.buildSlice 26 1 #[(0, qt 37)]) 26,
 sop nb 39 (.call { callee := .builtin .append, args := #[qt 36, qt 38], argTypes := #[26, 26] }) 26,
 qsg nb 6 39 26]) (
     .skip))) (
    .seq (
    .ops [qmv nb 40 9 3,
 qbo nb 41 .gtr 3 40 (qi 0) 3 4]) (
    .cond (qt 41) (
     .ops [qmv nb 42 7 26,
 qmv nb 43 8 3,
 sop nb 44 (.buildSlice 26 1 #[(0, qt 43)]) 26,
 sop nb 45 (.call { callee := .builtin .append, args := #[qt 42, qt 44], argTypes := #[26, 26] }) 26,
 qsg nb 7 45 26]) (
     .skip))))))) (
   .ops [qmv nb 16 8 3,
 qbo nb 17 .add 3 16 (qi 1) 3 3,
 qsg nb 8 17 3])))))) (
 .seq (
 .ops [qmv nb 46 6 26,
 qmv nb 47 7 26,
 qsg nb 4 46 26,
 qsg nb 5 47 26]) (
 .ret))))
@[go_sem] theorem rs41 : Go.Proofs.Try.f41.results.toList = [.tmp 4, .tmp 5] := by kernel_rfl
theorem k41 (nb : Nat) : sk nb Go.Proofs.Try.f41.ntmps (Go.Proofs.Try.f41.body.getD .skip) = some (c41 nb) := by kernel_rfl
theorem w41 {a : List Arg} {r : RV} (h : W Q (c41 0) [] ⟨ρ0 (a.map fun a => a.m.lv), h0⟩ (retG Q Go.Proofs.Try.f41.results.toList (retF r))) (l : Nat.ble a.length Go.Proofs.Try.f41.ntmps = true := by kernel_rfl) : Fn Q 41 a r := fn_intro Go.Proofs.Try.func41 rfl (by kernel_rfl) mix (k41 0) (Nat.le_of_ble_eq_true l) h
end S07

namespace S07
open Go Abs
noncomputable def c6 (nb : Nat) : SC :=
 .seq (
 .ops [sop nb 3 (.box 24 (qt 0)) 0,
 sop nb 5 (.box 59 (qt 2)) 0,
 sop nb 6 (.assign (.const (.bool false))) 4]) (
 .seq (
 .seq (
 .ops [qmv nb 19 1 25,
 qln nb 20 #[qt 19] #[25] 3,
 qbo nb 21 .gtr 3 20 (qi 10) 3 4,
 qmv nb 22 21 4,
 gop nb 23 (.load 24 (qt 3)) 24 22 false,
 gop nb 24 (.move (qt 1)) 25 22 false,
 gop nb 25 (.call { callee := .value (.func 13), args := #[qt 23, qt 24], argTypes := #[24, 25] }) 4 22 false,
 sop nb 26 (.pick (qt 22) (.const (.bool true)) (qt 25)) 4,
 qmv nb 27 26 4,
 gop nb 28 (.fieldAddr 59 (qt 5) 0) 0 27 false,
 gop nb 29 (.load 26 (qt 28)) 26 27 false,
 gop nb 30 (.call { callee := .builtin .len, args := #[qt 29], argTypes := #[26] }) 3 27 false,
 gop nb 31 (.binOp .gtr 3 (qt 30) (qi 12) 3) 4 27 false,
 sop nb 32 (.pick (qt 27) (.const (.bool true)) (qt 31)) 4]) (
 .cond (qt 32) (
  .seq (
  .ops [qcl nb 33 14 #[] #[] 4,
 qsg nb 6 33 4]) (
  .ret)) (
  .skip))) (
 .seq (
 .opsD [qld nb 34 24 3,
 qcl nb 35 15 #[qt 34] #[24] 24,
 qmv nb 36 1 25,
 qcl nb 37 16 #[qt 36] #[25] 25,
 sop nb 38 (.fieldAddr 59 (qt 5) 0) 0,
 qld nb 39 26 38,
 qcl nb 40 17 #[qt 39] #[26] 26,
 sop nb 7 (.alloc 24) 0,
 nop (.store 24 (qt 7) (qt 35)) 0,
 qsg nb 8 37 25,
 qsg nb 9 40 26] [(1, 5), (3, 5), (0, 7), (1, 7), (3, 7), (5, 7), (6, 7)]) (
 .seq (
 .ops [qld nb 42 24 7,
 qmv nb 43 8 25,
 qmv nb 44 9 26,
 sop nb 45 (.fieldAddr 59 (qt 5) 1) 0,
 qld nb 46 3 45,
 qcl nb 47 37 #[qt 42, qt 43, qt 44, qt 46] #[24, 25, 26, 3] 60,
 qmv nb 41 47 60,
 qex nb 48 41 0 25,
 qex nb 49 41 1 34,
 qsg nb 10 48 25,
 qsg nb 11 49 34]) (
 .seq (
 .ops [qld nb 51 24 7,
 qmv nb 52 8 25,
 qmv nb 53 9 26,
 sop nb 54 (.fieldAddr 59 (qt 5) 1) 0,
 qld nb 55 3 54,
 qcl nb 56 38 #[qt 51, qt 52, qt 53, qt 55] #[24, 25, 26, 3] 62,
 qmv nb 50 56 62,
 qex nb 57 50 0 26,
 qex nb 58 50 1 26,
 qex nb 59 50 2 34,
 qsg nb 12 57 26,
 qsg nb 13 58 26,
 qsg nb 14 59 34]) (
 .seq (
 .seq (
 .ops [qld nb 60 24 7,
 qld nb 61 24 3,
 qcl nb 62 20 #[qt 60, qt 61] #[24, 24] 4,
 sop nb 63 (.unOp .not 4 (qt 62)) 4,
 qmv nb 64 63 4,
 gop nb 65 (.move (qt 8)) 25 64 false,
 gop nb 66 (.move (qt 1)) 25 64 false,
 gop nb 67 (.call { callee := .value (.func 21), args := #[qt 65, qt 66], argTypes := #[25, 25] }) 4 64 false,
 gop nb 68 (.unOp .not 4 (qt 67)) 4 64 false,
 sop nb 69 (.pick (qt 64) (.const (.bool true)) (qt 68)) 4,
 qmv nb 70 69 4,
 gop nb 71 (.move (qt 9)) 26 70 false,
 gop nb 72 (.fieldAddr 59 (qt 5) 0) 0 70 false,
 gop nb 73 (.load 26 (qt 72)) 26 70 false,
 gop nb 74 (.call { callee := .value (.func 22), args := #[qt 71, qt 73], argTypes := #[26, 26] }) 4 70 false,
 gop nb 75 (.unOp .not 4 (qt 74)) 4 70 false,
 sop nb 76 (.pick (qt 70) (.const (.bool true)) (qt 75)) 4]) (
 .cond (qt 76) (
  .seq (
  .ops [sop nb 6 (.assign (.const (.bool false))) 4]) (
  .ret)) (
  .skip))) (
 .seq (
 .ops [qld nb 77 24 3,
 qcl nb 78 23 #[qt 77] #[24] 34,
 sop nb 79 (.buildSlice 25 0 #[]) 25,
 qsg nb 15 78 34,
 qsg nb 16 79 25]) (
 .seq (
 .seq (
 .ops [qmv nb 80 15 34,
 qbo nb 81 .eql 34 80 (qi 0) 34 4]) (
 .cond (qt 81) (
  .ops [qld nb 82 24 3,
 qmv nb 83 1 25,
 sop nb 84 (.fieldAddr 59 (qt 5) 0) 0,
 qld nb 85 26 84,
 sop nb 86 (.fieldAddr 59 (qt 5) 1) 0,
 qld nb 87 3 86,
 qcl nb 88 39 #[qt 82, qt 83, qt 85, qt 87] #[24, 25, 26, 3] 34,
 qsg nb 15 88 34]) (
  .skip))) (
 .seq (
 .seq (
 .ops [qmv nb 89 15 34,
 qbo nb 90 .eql 34 89 (qi 0) 34 4]) (
 .cond (qt 90) (
  .seq (
  .ops [qld nb 91 24 3,
 qmv nb 92 1 25,
 sop nb 93 (.fieldAddr 59 (qt 5) 0) 0,
 qld nb 94 26 93,
 sop nb 95 (.fieldAddr 59 (qt 5) 1) 0,
 qld nb 96 3 95,
 qcl nb 97 40 #[qt 91, qt 92, qt 94, qt 96] #[24, 25, 26, 3] 25,
 qsg nb 16 97 25]) (
  .seq (
  .ops [qmv nb 98 16 25,
 qln nb 99 #[qt 98] #[25] 3,
 qbo nb 100 .eql 3 99 (qi 0) 3 4]) (
  .cond (qt 100) (
   .ops [sop nb 15 (.assign (qi 7)) 34]) (
   .skip)))) (
  .skip))) (
 .seq (
 .seq (
 .ops [qmv nb 101 15 34,
 qbo nb 102 .neq 34 101 (qi 0) 34 4]) (
 .cond (qt 102) (
  .seq (
  .ops [qmv nb 103 11 34,
 qmv nb 104 15 34,
 qbo nb 105 .eql 34 103 (qt 104) 34 4,
 qmv nb 106 105 4,
 gop nb 107 (.move (qt 14)) 34 106 true,
 gop nb 108 (.move (qt 15)) 34 106 true,
 gop nb 109 (.binOp .eql 34 (qt 107) (qt 108) 34) 4 106 true,
 sop nb 110 (.pick (qt 106) (qt 109) (.const (.bool false))) 4,
 qmv nb 111 110 4,
 gop nb 112 (.move (qt 10)) 25 111 true,
 gop nb 113 (.call { callee := .builtin .len, args := #[qt 112], argTypes := #[25] }) 3 111 true,
 gop nb 114 (.move (qt 12)) 26 111 true,
 gop nb 115 (.call { callee := .builtin .len, args := #[qt 114], argTypes := #[26] }) 3 111 true,
 gop nb 116 (.binOp .add 3 (qt 113) (qt 115) 3) 3 111 true,
 gop nb 117 (.move (qt 13)) 26 111 true,
 gop nb 118 (.call { callee := .builtin .len, args := #[qt 117], argTypes := #[26] }) 3 111 true,
 gop nb 119 (.binOp .add 3 (qt 116) (qt 118) 3) 3 111 true,
 gop nb 120 (.binOp .eql 3 (qt 119) (qi 0) 3) 4 111 true,
 sop nb 121 (.pick (qt 111) (qt 120) (.const (.bool false))) 4,
 qmv nb 122 121 4,
 gop nb 123 (.call { callee := .value (.func 14), args := #[], argTypes := #[] }) 4 122 true,
 sop nb 124 (.pick (qt 122) (qt 123) (.const (.bool false))) 4,
 qsg nb 6 124 4]) (
  .ret)) (
  .skip))) (
 .seq (
 .ops [qmv nb 126 16 25,
 qmv nb 127 1 25,
 qln nb 128 #[qt 127] #[25] 3,
 qcl nb 129 41 #[qt 126, qt 128] #[25, 3] 66,
 qmv nb 125 129 66,
 qex nb 130 125 0 26,
 qex nb 131 125 1 26,
 qsg nb 17 130 26,
 qsg nb 18 131 26]) (
 .seq (
 .ops [qmv nb 132 11 34,
 qbo nb 133 .eql 34 132 (qi 0) 34 4,
 qmv nb 134 133 4,
 gop nb 135 (.move (qt 10)) 25 134 true,
 gop nb 136 (.move (qt 16)) 25 134 true,
 gop nb 137 (.call { callee := .value (.func 21), args := #[qt 135, qt 136], argTypes := #[25, 25] }) 4 134 true,
 sop nb 138 (.pick (qt 134) (qt 137) (.const (.bool false))) 4,
 qmv nb 139 138 4,
 gop nb 140 (.move (qt 14)) 34 139 true,
 gop nb 141 (.binOp .eql 34 (qt 140) (qi 0) 34) 4 139 true,
 sop nb 142 (.pick (qt 139) (qt 141) (.const (.bool false))) 4,
 qmv nb 143 142 4,
 gop nb 144 (.move (qt 12)) 26 143 true,
 gop nb 145 (.move (qt 17)) 26 143 true,
 gop nb 146 (.call { callee := .value (.func 22), args := #[qt 144, qt 145], argTypes := #[26, 26] }) 4 143 true,
 sop nb 147 (.pick (qt 143) (qt 146) (.const (.bool false))) 4,
 qmv nb 148 147 4,
 gop nb 149 (.move (qt 13)) 26 148 true,
 gop nb 150 (.move (qt 18)) 26 148 true,
 gop nb 151 (.call { callee := .value (.func 22), args := #[qt 149, qt 150], argTypes := #[26, 26] }) 4 148 true,
 sop nb 152 (.pick (qt 148) (qt 151) (.const (.bool false))) 4,
 qmv nb 153 152 4,
 gop nb 154 (.call { callee := .value (.func 14), args := #[], argTypes := #[] }) 4 153 true,
 sop nb 155 (.pick (qt 153) (qt 154) (.const (.bool false))) 4,
 qsg nb 6 155 4]) (
 .ret))))))))))))
@[go_sem] theorem rs6 : Go.Proofs.Try.f6.results.toList = [.tmp 6] := by kernel_rfl
theorem k6 (nb : Nat) : sk nb Go.Proofs.Try.f6.ntmps (Go.Proofs.Try.f6.body.getD .skip) = some (c6 nb) := by kernel_rfl
theorem w6 {a : List Arg} {r : RV} (h : W Q (c6 0) [] ⟨ρ0 (a.map fun a => a.m.lv), h0⟩ (retG Q Go.Proofs.Try.f6.results.toList (retF r))) (l : Nat.ble a.length Go.Proofs.Try.f6.ntmps = true := by kernel_rfl) : Fn Q 6 a r := fn_intro Go.Proofs.Try.func6 rfl (by kernel_rfl) mix (k6 0) (Nat.le_of_ble_eq_true l) h
end S07

