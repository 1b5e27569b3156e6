/- A part of the proof: C07t0, C07u0, C07li0. -/
import Derived.Test.YtmanbdacloeioaaF07
set_option linter.unusedVariables false
set_option linter.unusedSimpArgs false
set_option maxRecDepth 20000
namespace S07
open Go Abs
noncomputable def c33 (nb : Nat) : SC :=
 .seq (
 .ops [sop nb 4 (.box 24 (qt 0)) 0,
 sop nb 8 (.assign (.const (.slice none 0 0))) 26,
 sop nb 9 (.assign (.const (.bool false))) 4]) (
 .seq (
 .seq (
 .ops [qmv nb 14 3 3,
 qmv nb 15 2 26,
 qln nb 16 #[qt 15] #[26] 3,
 qbo nb 17 .eql 3 14 (qt 16) 3 4]) (
 .cond (qt 17) (
  .seq (
  .ops [sop nb 8 (.assign (.const (.slice none 0 0))) 26,
 sop nb 9 (.assign (.const (.bool true))) 4]) (
  .ret)) (
  .skip))) (
 .seq (
 .seq (
 .ops [sop nb 10 (.assign (qi 0)) 3]) (
 .block 0 (
  .loop (
   .seq (
   .seq (
   .ops [qmv nb 18 10 3,
 sop nb 19 (.fieldAddr 24 (qt 4) 0) 0,
 qld nb 20 3 19,
 qbo nb 21 .lss 3 18 (qt 20) 3 4]) (
   .cond (qt 21) (
    .skip) (
    .exit 0))) (
   .seq (
   .block 1 (
    .seq (
    .seq (
    .opsD [qmv nb 24 10 3,
 qmv nb 25 2 26,
 qmv nb 26 3 3,
 qix nb 27 26 25 26 0,
 qld nb 28 3 27,
 qbo nb 29 .neq 3 24 (qt 28) 3 4,
 qmv nb 30 29 4,
 gop nb 31 (.load 24 (qt 4)) 24 30 true,
 gop nb 32 (.move (qt 10)) 3 30 true,
 gop nb 33 (.call { callee := .value (.func 68), args := #[qt 31, qt 32], argTypes := #[24, 3] }) 3 30 true,
 gop nb 34 (.move (qt 2)) 26 30 true,
 gop nb 35 (.move (qt 3)) 3 30 true,
 gop nb 36 (.indexAddr 26 (qt 34) (qt 35)) 0 30 true,
 gop nb 37 (.load 3 (qt 36)) 3 30 true,
 gop nb 38 (.binOp .neq 3 (qt 33) (qt 37) 3) 4 30 true,
 sop nb 39 (.pick (qt 30) (qt 38) (.const (.bool false))) 4,
 qmv nb 40 39 4,
 gop nb 41 (.move (qt 1)) 26 40 false,
 gop nb 42 (.move (qt 10)) 3 40 false,
 gop nb 43 (.indexAddr 26 (qt 41) (qt 42)) 0 40 false,
 gop nb 44 (.load 3 (qt 43)) 3 40 false,
 gop nb 45 (.binOp .eql 3 (qt 44) (qi 0) 3) 4 40 false,
 sop nb 46 (.pick (qt 40) (.const (.bool true)) (qt 45)) 4] [(9, 12), (9, 13)]) (
    .cond (qt 46) (
     .exit 1) (
     .skip))) (
    .seq (
    .ops [sop nb 47 (.buildSlice 26 0 #[]) 26,
 qmv nb 48 1 26,
 sop nb 49 (.call { callee := .builtin .append, args := #[qt 47, qt 48], argTypes := #[26, 26] }) 26,
 qsg nb 11 49 26]) (
    .seq (
    .ops [qmv nb 50 11 26,
 qmv nb 51 10 3,
 qix nb 52 26 50 51 0,
 qld nb 53 3 52,
 qbo nb 54 .sub 3 53 (qi 1) 3 3,
 qix nb 55 26 50 51 0,
 nop (.store 3 (qt 55) (qt 54)) 0]) (
    .seq (
    .ops [qld nb 57 24 4,
 qmv nb 58 11 26,
 qmv nb 59 2 26,
 qmv nb 60 3 3,
 qbo nb 61 .add 3 60 (qi 1) 3 3,
 qcl nb 62 33 #[qt 57, qt 58, qt 59, qt 61] #[24, 26, 26, 3] 51,
 qmv nb 56 62 51,
 qex nb 63 56 0 26,
 qex nb 64 56 1 4,
 qsg nb 12 63 26,
 qsg nb 13 64 4]) (
    .seq (
    .ops [qmv nb 65 13 4]) (
    .cond (qt 65) (
     .seq (
     .ops [qmv nb 66 10 3,
 sop nb 67 (.buildSlice 26 1 #[(0, qt 66)]) 26,
 qmv nb 68 12 26,
 sop nb 69 (.call { callee := .builtin .append, args := #[qt 67, qt 68], argTypes := #[26, 26] }) 26,
 qsg nb 8 69 26,
 sop nb 9 (.assign (.const (.bool true))) 4]) (
     .ret)) (
     .skip)))))))) (
   .ops [qmv nb 22 10 3,
 qbo nb 23 .add 3 22 (qi 1) 3 3,
 qsg nb 10 23 3])))))) (
 .seq (
 .ops [sop nb 8 (.assign (.const (.slice none 0 0))) 26,
 sop nb 9 (.assign (.const (.bool false))) 4]) (
 .ret))))
@[go_sem] theorem rs33 : Go.Proofs.Try.f33.results.toList = [.tmp 8, .tmp 9] := by kernel_rfl
theorem k33 (nb : Nat) : sk nb Go.Proofs.Try.f33.ntmps (Go.Proofs.Try.f33.body.getD .skip) = some (c33 nb) := by kernel_rfl
theorem w33 {a : List Arg} {r : RV} (h : W Q (c33 0) [] ⟨ρ0 (a.map fun a => a.m.lv), h0⟩ (retG Q Go.Proofs.Try.f33.results.toList (retF r))) (l : Nat.ble a.length Go.Proofs.Try.f33.ntmps = true := by kernel_rfl) : Fn Q 33 a r := fn_intro Go.Proofs.Try.func33 rfl (by kernel_rfl) mix (k33 0) (Nat.le_of_ble_eq_true l) h
noncomputable def c34 (nb : Nat) : SC :=
 .seq (
 .ops [sop nb 3 (.box 24 (qt 0)) 0,
 sop nb 6 (.assign (.const (.slice none 0 0))) 26]) (
 .seq (
 .ops [sop nb 15 (.buildSlice 26 0 #[]) 26,
 qsg nb 7 15 26,
 sop nb 8 (.assign (.const (.bool false))) 4]) (
 .seq (
 .seq (
 .ops [sop nb 9 (.assign (qi 0)) 3]) (
 .block 0 (
  .loop (
   .seq (
   .seq (
   .ops [qmv nb 16 9 3,
 qmv nb 17 2 26,
 qln nb 18 #[qt 17] #[26] 3,
 sop nb 19 (.convert 3 102 (qt 18)) 102,
 sop nb 20 (.binOp .shl 3 (qi 1) (qt 19) 102) 3,
 qbo nb 21 .lss 3 16 (qt 20) 3 4]) (
   .cond (qt 21) (
    .skip) (
    .exit 0))) (
   .seq (
   .block 1 (
    .seq (
    .ops [qmv nb 24 9 3,
 qmv nb 25 2 26,
 qln nb 26 #[qt 25] #[26] 3,
 qcl nb 27 69 #[qt 24, qt 26] #[3, 3] 26,
 sop nb 28 (.buildSlice 26 0 #[]) 26,
 qsg nb 10 27 26,
 qsg nb 11 28 26]) (
    .seq (
    .seq (
    .ops [sop nb 12 (.assign (qi 0)) 3]) (
    .block 2 (
     .loop (
      .seq (
      .seq (
      .ops [qmv nb 29 12 3,
 qmv nb 30 2 26,
 qln nb 31 #[qt 30] #[26] 3,
 qbo nb 32 .lss 3 29 (qt 31) 3 4]) (
      .cond (qt 32) (
       .skip) (
       .exit 2))) (
      .seq (
      .block 3 (
       .seq (
       .ops [qmv nb 35 9 3,
 qmv nb 36 12 3,
 sop nb 37 (.convert 3 102 (qt 36)) 102,
 qbo nb 38 .shr 3 35 (qt 37) 102 3,
 qbo nb 39 .and 3 38 (qi 1) 3 3,
 qbo nb 40 .eql 3 39 (qi 0) 3 4]) (
       .cond (qt 40) (
        .ops [qmv nb 41 11 26,
 qmv nb 42 2 26,
 qmv nb 43 12 3,
 qix nb 44 26 42 43 0,
 qld nb 45 3 44,
 sop nb 46 (.buildSlice 26 1 #[(0, qt 45)]) 26,
 sop nb 47 (.call { callee := .builtin .append, args := #[qt 41, qt 46], argTypes := #[26, 26] }) 26,
 qsg nb 11 47 26]) (
        .skip)))) (
      .ops [qmv nb 33 12 3,
 qbo nb 34 .add 3 33 (qi 1) 3 3,
 qsg nb 12 34 3])))))) (
    .seq (
    .seq (
    .ops [qmv nb 48 8 4,
 qmv nb 49 48 4,
 gop nb 50 (.move (qt 10)) 26 49 true,
 gop nb 51 (.call { callee := .builtin .len, args := #[qt 50], argTypes := #[26] }) 3 49 true,
 gop nb 52 (.move (qt 7)) 26 49 true,
 gop nb 53 (.call { callee := .builtin .len, args := #[qt 52], argTypes := #[26] }) 3 49 true,
 gop nb 54 (.binOp .gtr 3 (qt 51) (qt 53) 3) 4 49 true,
 gop nb 55 (.move (qt 54)) 4 49 true,
 gop nb 56 (.move (qt 10)) 26 55 false,
 gop nb 57 (.call { callee := .builtin .len, args := #[qt 56], argTypes := #[26] }) 3 55 false,
 gop nb 58 (.move (qt 7)) 26 55 false,
 gop nb 59 (.call { callee := .builtin .len, args := #[qt 58], argTypes := #[26] }) 3 55 false,
 gop nb 60 (.binOp .eql 3 (qt 57) (qt 59) 3) 4 55 false,
 gop nb 61 (.move (qt 60)) 4 55 false,
 gop nb 62 (.move (qt 10)) 26 61 true,
 gop nb 63 (.move (qt 7)) 26 61 true,
 gop nb 64 (.call { callee := .value (.func 62), args := #[qt 62, qt 63], argTypes := #[26, 26] }) 3 61 true,
 gop nb 65 (.binOp .gtr 3 (qt 64) (qi 0) 3) 4 61 true,
 gop nb 66 (.pick (qt 61) (qt 65) (.const (.bool false))) 4 55 false,
 gop nb 67 (.pick (qt 55) (.const (.bool true)) (qt 66)) 4 49 true,
 sop nb 68 (.pick (qt 49) (qt 67) (.const (.bool false))) 4]) (
    .cond (qt 68) (
     .exit 1) (
     .skip))) (
    .seq (
    .ops [qld nb 70 24 3,
 qmv nb 71 1 26,
 qmv nb 72 11 26,
 qcl nb 73 33 #[qt 70, qt 71, qt 72, qi 0] #[24, 26, 26, 3] 51,
 qmv nb 69 73 51,
 qex nb 74 69 0 26,
 qex nb 75 69 1 4,
 qsg nb 13 74 26,
 qsg nb 14 75 4]) (
    .seq (
    .ops [qmv nb 76 14 4]) (
    .cond (qt 76) (
     .ops [qmv nb 77 10 26,
 qsg nb 7 77 26,
 sop nb 8 (.assign (.const (.bool true))) 4]) (
     .skip)))))))) (
   .ops [qmv nb 22 9 3,
 qbo nb 23 .add 3 22 (qi 1) 3 3,
 qsg nb 9 23 3])))))) (
 .seq (
 .ops [qmv nb 78 7 26,
 qsg nb 6 78 26]) (
 .ret))))
@[go_sem] theorem rs34 : Go.Proofs.Try.f34.results.toList = [.tmp 6] := by kernel_rfl
theorem k34 (nb : Nat) : sk nb Go.Proofs.Try.f34.ntmps (Go.Proofs.Try.f34.body.getD .skip) = some (c34 nb) := by kernel_rfl
theorem w34 {a : List Arg} {r : RV} (h : W Q (c34 0) [] ⟨ρ0 (a.map fun a => a.m.lv), h0⟩ (retG Q Go.Proofs.Try.f34.results.toList (retF r))) (l : Nat.ble a.length Go.Proofs.Try.f34.ntmps = true := by kernel_rfl) : Fn Q 34 a r := fn_intro Go.Proofs.Try.func34 rfl (by kernel_rfl) mix (k34 0) (Nat.le_of_ble_eq_true l) h
noncomputable def c69 (nb : Nat) : SC :=
 .seq (
 .ops [sop nb 4 (.assign (.const (.slice none 0 0))) 26]) (
 .seq (
 .ops [sop nb 7 (.buildSlice 26 0 #[]) 26,
 qsg nb 5 7 26]) (
 .seq (
 .seq (
 .ops [sop nb 6 (.assign (qi 0)) 3]) (
 .block 0 (
  .loop (
   .seq (
   .seq (
   .ops [qmv nb 8 6 3,
 qmv nb 9 1 3,
 qbo nb 10 .lss 3 8 (qt 9) 3 4]) (
   .cond (qt 10) (
    .skip) (
    .exit 0))) (
   .seq (
   .block 1 (
    .seq (
    .ops [qmv nb 13 0 3,
 qmv nb 14 6 3,
 sop nb 15 (.convert 3 102 (qt 14)) 102,
 qbo nb 16 .shr 3 13 (qt 15) 102 3,
 qbo nb 17 .and 3 16 (qi 1) 3 3,
 qbo nb 18 .eql 3 17 (qi 1) 3 4]) (
    .cond (qt 18) (
     .ops [qmv nb 19 5 26,
 qmv nb 20 6 3,
 sop nb 21 (.buildSlice 26 1 #[(0, qt 20)]) 26,
 sop nb 22 (.call { callee := .builtin .append, args := #[qt 19, qt 21], argTypes := #[26, 26] }) 26,
 qsg nb 5 22 26]) (
     .skip)))) (
   .ops [qmv nb 11 6 3,
 qbo nb 12 .add 3 11 (qi 1) 3 3,
 qsg nb 6 12 3])))))) (
 .seq (
 .ops [qmv nb 23 5 26,
 qsg nb 4 23 26]) (
 .ret))))
@[go_sem] theorem rs69 : Go.Proofs.Try.f69.results.toList = [.tmp 4] := by kernel_rfl
theorem k69 (nb : Nat) : sk nb Go.Proofs.Try.f69.ntmps (Go.Proofs.Try.f69.body.getD .skip) = some (c69 nb) := by kernel_rfl
theorem w69 {a : List Arg} {r : RV} (h : W Q (c69 0) [] ⟨ρ0 (a.map fun a => a.m.lv), h0⟩ (retG Q Go.Proofs.Try.f69.results.toList (retF r))) (l : Nat.ble a.length Go.Proofs.Try.f69.ntmps = true := by kernel_rfl) : Fn Q 69 a r := fn_intro Go.Proofs.Try.func69 rfl (by kernel_rfl) mix (k69 0) (Nat.le_of_ble_eq_true l) h
end S07

namespace S07
open Go Abs
noncomputable def c36 (nb : Nat) : SC :=
 .seq (
 .ops [sop nb 3 (.box 24 (qt 0)) 0,
 sop nb 6 (.assign (.const (.slice none 0 0))) 26]) (
 .seq (
 .opsD [sop nb 12 (.buildSlice 26 0 #[]) 26,
 qmv nb 13 1 26,
 sop nb 14 (.call { callee := .builtin .append, args := #[qt 12, qt 13], argTypes := #[26, 26] }) 26,
 sop nb 15 (.fieldAddr 24 (qt 3) 0) 0,
 qld nb 16 3 15,
 sop nb 17 (.makeSlice 26 (qt 16) (qt 16)) 26,
 qsg nb 7 14 26,
 qsg nb 8 17 26] [(0, 4), (2, 4), (0, 5), (2, 5), (4, 6), (5, 6)]) (
 .seq (
 .seq (
 .ops [sop nb 18 (.fieldAddr 24 (qt 3) 0) 0,
 qld nb 19 3 18,
 qbo nb 20 .sub 3 19 (qi 1) 3 3,
 qsg nb 9 20 3]) (
 .block 0 (
  .loop (
   .seq (
   .seq (
   .ops [qmv nb 21 9 3,
 qbo nb 22 .geq 3 21 (qi 0) 3 4]) (
   .cond (qt 22) (
    .skip) (
    .exit 0))) (
   .seq (
   .block 1 (
    .seq (
    .ops [sop nb 10 (.assign (.const (.bool true))) 4]) (
    .block 2 (
     .loop (
      .seq (
      .seq (
      .ops [qmv nb 25 10 4]) (
      .cond (qt 25) (
       .skip) (
       .exit 2))) (
      .block 3 (
       .seq (
       .ops [sop nb 26 (.buildSlice 26 0 #[]) 26,
 qmv nb 27 7 26,
 sop nb 28 (.call { callee := .builtin .append, args := #[qt 26, qt 27], argTypes := #[26, 26] }) 26,
 qsg nb 11 28 26]) (
       .seq (
       .ops [qmv nb 29 11 26,
 qmv nb 30 9 3,
 qix nb 31 26 29 30 0,
 qld nb 32 3 31,
 qbo nb 33 .add 3 32 (qi 1) 3 3,
 qix nb 34 26 29 30 0,
 nop (.store 3 (qt 34) (qt 33)) 0]) (
       .seq (
       .ops [qld nb 35 24 3,
 qmv nb 36 7 26,
 qmv nb 37 11 26,
 qmv nb 38 2 25,
 qcl nb 39 72 #[qt 35, qt 36, qt 37, qt 38] #[24, 26, 26, 25] 4,
 qsg nb 10 39 4]) (
       .seq (
       .ops [qmv nb 40 10 4]) (
       .cond (qt 40) (
        .seq (
        .ops [qmv nb 41 11 26,
 sop nb 42 (.buildSlice 26 0 #[]) 26,
 qmv nb 43 8 26,
 sop nb 44 (.call { callee := .builtin .append, args := #[qt 42, qt 43], argTypes := #[26, 26] }) 26,
 qsg nb 7 41 26,
 qsg nb 8 44 26]) (
        .ops [qmv nb 45 8 26,
 qmv nb 46 9 3,
 qix nb 47 26 45 46 0,
 qld nb 48 3 47,
 qbo nb 49 .add 3 48 (qi 1) 3 3,
 qix nb 50 26 45 46 0,
 nop (.store 3 (qt 50) (qt 49)) 0])) (
        .skip)))))))))))) (
   .ops [qmv nb 23 9 3,
 qbo nb 24 .sub 3 23 (qi 1) 3 3,
 qsg nb 9 24 3])))))) (
 .seq (
 .ops [qmv nb 51 8 26,
 qsg nb 6 51 26]) (
 .ret))))
@[go_sem] theorem rs36 : Go.Proofs.Try.f36.results.toList = [.tmp 6] := by kernel_rfl
theorem k36 (nb : Nat) : sk nb Go.Proofs.Try.f36.ntmps (Go.Proofs.Try.f36.body.getD .skip) = some (c36 nb) := by kernel_rfl
theorem w36 {a : List Arg} {r : RV} (h : W Q (c36 0) [] ⟨ρ0 (a.map fun a => a.m.lv), h0⟩ (retG Q Go.Proofs.Try.f36.results.toList (retF r))) (l : Nat.ble a.length Go.Proofs.Try.f36.ntmps = true := by kernel_rfl) : Fn Q 36 a r := fn_intro Go.Proofs.Try.func36 rfl (by kernel_rfl) mix (k36 0) (Nat.le_of_ble_eq_true l) h
noncomputable def c72 (nb : Nat) : SC :=
 .seq (
 .ops [sop nb 4 (.box 24 (qt 0)) 0,
 sop nb 8 (.assign (.const (.bool false))) 4]) (
 .seq (
 .seq (
 .ops [sop nb 9 (.assign (qi 0)) 3]) (
 .block 0 (
  .loop (
   .seq (
   .seq (
   .ops [qmv nb 10 9 3,
 qmv nb 11 3 25,
 qln nb 12 #[qt 11] #[25] 3,
 qbo nb 13 .lss 3 10 (qt 12) 3 4]) (
   .cond (qt 13) (
    .skip) (
    .exit 0))) (
   .seq (
   .block 1 (
    .seq (
    .opsD [qld nb 16 24 4,
 qmv nb 17 2 26,
 qmv nb 18 3 25,
 qmv nb 19 9 3,
 qix nb 20 25 18 19 0,
 qld nb 21 26 20,
 qcl nb 22 34 #[qt 16, qt 17, qt 21] #[24, 26, 26] 26,
 qln nb 23 #[qt 22] #[26] 3,
 qld nb 24 24 4,
 qmv nb 25 1 26,
 qmv nb 26 3 25,
 qmv nb 27 9 3,
 qix nb 28 25 26 27 0,
 qld nb 29 26 28,
 qcl nb 30 34 #[qt 24, qt 25, qt 29] #[24, 26, 26] 26,
 qln nb 31 #[qt 30] #[26] 3,
 qbo nb 32 .lss 3 23 (qt 31) 3 4] [(6, 8), (6, 12), (6, 13), (7, 14)]) (
    .cond (qt 32) (
     .seq (
     .ops [sop nb 8 (.assign (.const (.bool true))) 4]) (
     .ret)) (
     .skip)))) (
   .ops [qmv nb 14 9 3,
 qbo nb 15 .add 3 14 (qi 1) 3 3,
 qsg nb 9 15 3])))))) (
 .seq (
 .ops [sop nb 8 (.assign (.const (.bool false))) 4]) (
 .ret)))
@[go_sem] theorem rs72 : Go.Proofs.Try.f72.results.toList = [.tmp 8] := by kernel_rfl
theorem k72 (nb : Nat) : sk nb Go.Proofs.Try.f72.ntmps (Go.Proofs.Try.f72.body.getD .skip) = some (c72 nb) := by kernel_rfl
theorem w72 {a : List Arg} {r : RV} (h : W Q (c72 0) [] ⟨ρ0 (a.map fun a => a.m.lv), h0⟩ (retG Q Go.Proofs.Try.f72.results.toList (retF r))) (l : Nat.ble a.length Go.Proofs.Try.f72.ntmps = true := by kernel_rfl) : Fn Q 72 a r := fn_intro Go.Proofs.Try.func72 rfl (by kernel_rfl) mix (k72 0) (Nat.le_of_ble_eq_true l) h
end S07

namespace S07
open Go Abs
noncomputable def c5 (nb : Nat) : SC :=
 .seq (
 .ops [sop nb 3 (.box 24 (qt 0)) 0,
 sop nb 6 (.assign (.const (.bool false))) 4]) (
 .seq (
 .seq (
 .ops [qmv nb 13 2 25,
 qln nb 14 #[qt 13] #[25] 3,
 qbo nb 15 .gtr 3 14 (qi 10) 3 4,
 qmv nb 16 15 4,
 gop nb 17 (.load 24 (qt 3)) 24 16 false,
 gop nb 18 (.move (qt 2)) 25 16 false,
 gop nb 19 (.call { callee := .value (.func 13), args := #[qt 17, qt 18], argTypes := #[24, 25] }) 4 16 false,
 sop nb 20 (.pick (qt 16) (.const (.bool true)) (qt 19)) 4,
 qmv nb 21 20 4,
 gop nb 22 (.move (qt 1)) 26 21 false,
 gop nb 23 (.call { callee := .builtin .len, args := #[qt 22], argTypes := #[26] }) 3 21 false,
 gop nb 24 (.binOp .gtr 3 (qt 23) (qi 12) 3) 4 21 false,
 sop nb 25 (.pick (qt 21) (.const (.bool true)) (qt 24)) 4]) (
 .cond (qt 25) (
  .seq (
  .ops [qcl nb 26 14 #[] #[] 4,
 qsg nb 6 26 4]) (
  .ret)) (
  .skip))) (
 .seq (
 .ops [qld nb 27 24 3,
 qcl nb 28 15 #[qt 27] #[24] 24,
 qmv nb 29 1 26,
 qcl nb 30 17 #[qt 29] #[26] 26,
 qmv nb 31 2 25,
 qcl nb 32 16 #[qt 31] #[25] 25,
 sop nb 7 (.alloc 24) 0,
 nop (.store 24 (qt 7) (qt 28)) 0,
 qsg nb 8 30 26,
 qsg nb 9 32 25]) (
 .seq (
 .ops [qld nb 34 24 7,
 qmv nb 35 8 26,
 qmv nb 36 9 25,
 qcl nb 37 35 #[qt 34, qt 35, qt 36] #[24, 26, 25] 35,
 qmv nb 33 37 35,
 qex nb 38 33 0 26,
 qex nb 39 33 1 34,
 qsg nb 10 38 26,
 qsg nb 11 39 34]) (
 .seq (
 .seq (
 .ops [qld nb 40 24 7,
 qld nb 41 24 3,
 qcl nb 42 20 #[qt 40, qt 41] #[24, 24] 4,
 sop nb 43 (.unOp .not 4 (qt 42)) 4,
 qmv nb 44 43 4,
 gop nb 45 (.move (qt 8)) 26 44 false,
 gop nb 46 (.move (qt 1)) 26 44 false,
 gop nb 47 (.call { callee := .value (.func 22), args := #[qt 45, qt 46], argTypes := #[26, 26] }) 4 44 false,
 gop nb 48 (.unOp .not 4 (qt 47)) 4 44 false,
 sop nb 49 (.pick (qt 44) (.const (.bool true)) (qt 48)) 4,
 qmv nb 50 49 4,
 gop nb 51 (.move (qt 9)) 25 50 false,
 gop nb 52 (.move (qt 2)) 25 50 false,
 gop nb 53 (.call { callee := .value (.func 21), args := #[qt 51, qt 52], argTypes := #[25, 25] }) 4 50 false,
 gop nb 54 (.unOp .not 4 (qt 53)) 4 50 false,
 sop nb 55 (.pick (qt 50) (.const (.bool true)) (qt 54)) 4]) (
 .cond (qt 55) (
  .seq (
  .ops [sop nb 6 (.assign (.const (.bool false))) 4]) (
  .ret)) (
  .skip))) (
 .seq (
 .ops [qld nb 56 24 3,
 qcl nb 57 23 #[qt 56] #[24] 34,
 qsg nb 12 57 34]) (
 .seq (
 .seq (
 .ops [qmv nb 58 12 34,
 qbo nb 59 .eql 34 58 (qi 0) 34 4]) (
 .cond (qt 59) (
  .ops [qld nb 60 24 3,
 qmv nb 61 2 25,
 qcl nb 62 24 #[qt 60, qt 61] #[24, 25] 34,
 qsg nb 12 62 34]) (
  .skip))) (
 .seq (
 .seq (
 .ops [qmv nb 63 12 34,
 qbo nb 64 .eql 34 63 (qi 0) 34 4,
 qmv nb 65 64 4,
 gop nb 66 (.load 24 (qt 3)) 24 65 true,
 gop nb 67 (.move (qt 1)) 26 65 true,
 gop nb 68 (.call { callee := .value (.func 32), args := #[qt 66, qt 67, qi 5], argTypes := #[24, 26, 3] }) 4 65 true,
 gop nb 69 (.unOp .not 4 (qt 68)) 4 65 true,
 sop nb 70 (.pick (qt 65) (qt 69) (.const (.bool false))) 4]) (
 .cond (qt 70) (
  .ops [sop nb 12 (.assign (qi 4)) 34]) (
  .skip))) (
 .seq (
 .seq (
 .ops [qmv nb 71 12 34,
 qbo nb 72 .neq 34 71 (qi 0) 34 4]) (
 .cond (qt 72) (
  .seq (
  .ops [qmv nb 73 11 34,
 qmv nb 74 12 34,
 qbo nb 75 .eql 34 73 (qt 74) 34 4,
 qmv nb 76 75 4,
 gop nb 77 (.move (qt 10)) 26 76 true,
 gop nb 78 (.call { callee := .builtin .len, args := #[qt 77], argTypes := #[26] }) 3 76 true,
 gop nb 79 (.binOp .eql 3 (qt 78) (qi 0) 3) 4 76 true,
 sop nb 80 (.pick (qt 76) (qt 79) (.const (.bool false))) 4,
 qmv nb 81 80 4,
 gop nb 82 (.call { callee := .value (.func 14), args := #[], argTypes := #[] }) 4 81 true,
 sop nb 83 (.pick (qt 81) (qt 82) (.const (.bool false))) 4,
 qsg nb 6 83 4]) (
  .ret)) (
  .skip))) (
 .seq (
 .ops [qmv nb 84 11 34,
 qbo nb 85 .eql 34 84 (qi 0) 34 4,
 qmv nb 86 85 4,
 gop nb 87 (.move (qt 10)) 26 86 true,
 gop nb 88 (.load 24 (qt 3)) 24 86 true,
 gop nb 89 (.move (qt 1)) 26 86 true,
 gop nb 90 (.move (qt 2)) 25 86 true,
 gop nb 91 (.call { callee := .value (.func 36), args := #[qt 88, qt 89, qt 90], argTypes := #[24, 26, 25] }) 26 86 true,
 gop nb 92 (.call { callee := .value (.func 22), args := #[qt 87, qt 91], argTypes := #[26, 26] }) 4 86 true,
 sop nb 93 (.pick (qt 86) (qt 92) (.const (.bool false))) 4,
 qmv nb 94 93 4,
 gop nb 95 (.call { callee := .value (.func 14), args := #[], argTypes := #[] }) 4 94 true,
 sop nb 96 (.pick (qt 94) (qt 95) (.const (.bool false))) 4,
 qsg nb 6 96 4]) (
 .ret))))))))))
@[go_sem] theorem rs5 : Go.Proofs.Try.f5.results.toList = [.tmp 6] := by kernel_rfl
theorem k5 (nb : Nat) : sk nb Go.Proofs.Try.f5.ntmps (Go.Proofs.Try.f5.body.getD .skip) = some (c5 nb) := by kernel_rfl
theorem w5 {a : List Arg} {r : RV} (h : W Q (c5 0) [] ⟨ρ0 (a.map fun a => a.m.lv), h0⟩ (retG Q Go.Proofs.Try.f5.results.toList (retF r))) (l : Nat.ble a.length Go.Proofs.Try.f5.ntmps = true := by kernel_rfl) : Fn Q 5 a r := fn_intro Go.Proofs.Try.func5 rfl (by kernel_rfl) mix (k5 0) (Nat.le_of_ble_eq_true l) h
end S07

