/- A part of the proof: C07t0, C07lh0. -/
import Derived.Test.YtmanbdacloeioaaF07
set_option linter.unusedVariables false
set_option linter.unusedSimpArgs false
set_option maxRecDepth 20000
namespace S07
open Go Abs
/-- smalto/smaltoref07.Lay -/
noncomputable def c33 (nb : Nat) : SC :=
 .seq (
 .ops [sop nb 4 (.box 24 (qt 0)) 0,
 sop nb 8 (.assign (.const (.slice none 0 0))) 26,
 sop nb 9 (.assign (.const (.bool false))) 4]) (
 .seq (
 .seq (
 .ops [qmv nb 14 3 3,
 qmv nb 15 2 26,
 qln nb 16 #[qt 15] #[26] 3,
 qbo nb 17 .eql 3 14 (qt 16) 3 4]) (
 .cond (qt 17) (
  .seq (
  .ops [sop nb 8 (.assign (.const (.slice none 0 0))) 26,
 sop nb 9 (.assign (.const (.bool true))) 4]) (
  .ret)) (
  .skip))) (
 .seq (
 .seq (
 .ops [sop nb 10 (.assign (qi 0)) 3]) (
 .block 0 (
  .loop (
   .seq (
   .seq (
   .ops [qmv nb 18 10 3,
 sop nb 19 (.fieldAddr 24 (qt 4) 0) 0,
 qld nb 20 3 19,
 qbo nb 21 .lss 3 18 (qt 20) 3 4]) (
   .cond (qt 21) (
    .skip) (
    .exit 0))) (
   .seq (
   .block 1 (
    .seq (
    .seq (
    .opsD [qmv nb 24 10 3,
 qmv nb 25 2 26,
 qmv nb 26 3 3,
 qix nb 27 26 25 26 0,
 qld nb 28 3 27,
 qbo nb 29 .neq 3 24 (qt 28) 3 4,
 qmv nb 30 29 4,
 gop nb 31 (.load 24 (qt 4)) 24 30 true,
 gop nb 32 (.move (qt 10)) 3 30 true,
 gop nb 33 (.call { callee := .value (.func 68), args := #[qt 31, qt 32], argTypes := #[24, 3] }) 3 30 true,
 gop nb 34 (.move (qt 2)) 26 30 true,
 gop nb 35 (.move (qt 3)) 3 30 true,
 gop nb 36 (.indexAddr 26 (qt 34) (qt 35)) 0 30 true,
 gop nb 37 (.load 3 (qt 36)) 3 30 true,
 gop nb 38 (.binOp .neq 3 (qt 33) (qt 37) 3) 4 30 true,
 sop nb 39 (.pick (qt 30) (qt 38) (.const (.bool false))) 4,
 qmv nb 40 39 4,
 gop nb 41 (.move (qt 1)) 26 40 false,
 gop nb 42 (.move (qt 10)) 3 40 false,
 gop nb 43 (.indexAddr 26 (qt 41) (qt 42)) 0 40 false,
 gop nb 44 (.load 3 (qt 43)) 3 40 false,
 gop nb 45 (.binOp .eql 3 (qt 44) (qi 0) 3) 4 40 false,
 sop nb 46 (.pick (qt 40) (.const (.bool true)) (qt 45)) 4] [(9, 12), (9, 13)]) (
    .cond (qt 46) (
     .exit 1) (
     .skip))) (
    .seq (
    .ops [sop nb 47 (.buildSlice 26 0 #[]) 26,
 qmv nb 48 1 26,
 sop nb 49 (.call { callee := .builtin .append, args := #[qt 47, qt 48], argTypes := #[26, 26] }) 26,
 qsg nb 11 49 26]) (
    .seq (
    .ops [qmv nb 50 11 26,
 qmv nb 51 10 3,
 qix nb 52 26 50 51 0,
 qld nb 53 3 52,
 qbo nb 54 .sub 3 53 (qi 1) 3 3,
 qix nb 55 26 50 51 0,
 nop (.store 3 (qt 55) (qt 54)) 0]) (
    .seq (
    .ops [qld nb 57 24 4,
 qmv nb 58 11 26,
 qmv nb 59 2 26,
 qmv nb 60 3 3,
 qbo nb 61 .add 3 60 (qi 1) 3 3,
 qcl nb 62 33 #[qt 57, qt 58, qt 59, qt 61] #[24, 26, 26, 3] 51,
 qmv nb 56 62 51,
 qex nb 63 56 0 26,
 qex nb 64 56 1 4,
 qsg nb 12 63 26,
 qsg nb 13 64 4]) (
    .seq (
    .ops [qmv nb 65 13 4]) (
    .cond (qt 65) (
     .seq (
     .ops [qmv nb 66 10 3,
 sop nb 67 (.buildSlice 26 1 #[(0, qt 66)]) 26,
 qmv nb 68 12 26,
 sop nb 69 (.call { callee := .builtin .append, args := #[qt 67, qt 68], argTypes := #[26, 26] }) 26,
 qsg nb 8 69 26,
 sop nb 9 (.assign (.const (.bool true))) 4]) (
     .ret)) (
     .skip)))))))) (
   .ops [qmv nb 22 10 3,
 qbo nb 23 .add 3 22 (qi 1) 3 3,
 qsg nb 10 23 3])))))) (
 .seq (
 .ops [sop nb 8 (.assign (.const (.slice none 0 0))) 26,
 sop nb 9 (.assign (.const (.bool false))) 4]) (
 .ret))))
@[go_sem] theorem rs33 : Go.Proofs.Try.f33.results.toList = [.tmp 8, .tmp 9] := by kernel_rfl
theorem en33 : Enters Q 33 := enters_of Go.Proofs.Try.func33 rfl (by kernel_rfl)
theorem k33 (nb : Nat) : sk nb Go.Proofs.Try.f33.ntmps (Go.Proofs.Try.f33.body.getD .skip) = some (c33 nb) := by kernel_rfl
theorem w33 {a : List Arg} {r : RV} (h : W Q (c33 0) [] ⟨ρ0 (a.map fun a => a.m.lv), h0⟩ (retG Q Go.Proofs.Try.f33.results.toList (retF r))) (l : Nat.ble a.length Go.Proofs.Try.f33.ntmps = true := by kernel_rfl) : Fn Q 33 a r := fn_intro Go.Proofs.Try.func33 rfl (by kernel_rfl) mix (k33 0) (Nat.le_of_ble_eq_true l) h
/-- smalto/smaltoref07.Lack -/
noncomputable def c34 (nb : Nat) : SC :=
 .seq (
 .ops [sop nb 3 (.box 24 (qt 0)) 0,
 sop nb 6 (.assign (.const (.slice none 0 0))) 26]) (
 .seq (
 .ops [sop nb 15 (.buildSlice 26 0 #[]) 26,
 qsg nb 7 15 26,
 sop nb 8 (.assign (.const (.bool false))) 4]) (
 .seq (
 .seq (
 .ops [sop nb 9 (.assign (qi 0)) 3]) (
 .block 0 (
  .loop (
   .seq (
   .seq (
   .ops [qmv nb 16 9 3,
 qmv nb 17 2 26,
 qln nb 18 #[qt 17] #[26] 3,
 sop nb 19 (.convert 3 102 (qt 18)) 102,
 sop nb 20 (.binOp .shl 3 (qi 1) (qt 19) 102) 3,
 qbo nb 21 .lss 3 16 (qt 20) 3 4]) (
   .cond (qt 21) (
    .skip) (
    .exit 0))) (
   .seq (
   .block 1 (
    .seq (
    .ops [qmv nb 24 9 3,
 qmv nb 25 2 26,
 qln nb 26 #[qt 25] #[26] 3,
 qcl nb 27 69 #[qt 24, qt 26] #[3, 3] 26,
 sop nb 28 (.buildSlice 26 0 #[]) 26,
 qsg nb 10 27 26,
 qsg nb 11 28 26]) (
    .seq (
    .seq (
    .ops [sop nb 12 (.assign (qi 0)) 3]) (
    .block 2 (
     .loop (
      .seq (
      .seq (
      .ops [qmv nb 29 12 3,
 qmv nb 30 2 26,
 qln nb 31 #[qt 30] #[26] 3,
 qbo nb 32 .lss 3 29 (qt 31) 3 4]) (
      .cond (qt 32) (
       .skip) (
       .exit 2))) (
      .seq (
      .block 3 (
       .seq (
       .ops [qmv nb 35 9 3,
 qmv nb 36 12 3,
 sop nb 37 (.convert 3 102 (qt 36)) 102,
 qbo nb 38 .shr 3 35 (qt 37) 102 3,
 qbo nb 39 .and 3 38 (qi 1) 3 3,
 qbo nb 40 .eql 3 39 (qi 0) 3 4]) (
       .cond (qt 40) (
        .ops [qmv nb 41 11 26,
 qmv nb 42 2 26,
 qmv nb 43 12 3,
 qix nb 44 26 42 43 0,
 qld nb 45 3 44,
 sop nb 46 (.buildSlice 26 1 #[(0, qt 45)]) 26,
 sop nb 47 (.call { callee := .builtin .append, args := #[qt 41, qt 46], argTypes := #[26, 26] }) 26,
 qsg nb 11 47 26]) (
        .skip)))) (
      .ops [qmv nb 33 12 3,
 qbo nb 34 .add 3 33 (qi 1) 3 3,
 qsg nb 12 34 3])))))) (
    .seq (
    .seq (
    .ops [qmv nb 48 8 4,
 qmv nb 49 48 4,
 gop nb 50 (.move (qt 10)) 26 49 true,
 gop nb 51 (.call { callee := .builtin .len, args := #[qt 50], argTypes := #[26] }) 3 49 true,
 gop nb 52 (.move (qt 7)) 26 49 true,
 gop nb 53 (.call { callee := .builtin .len, args := #[qt 52], argTypes := #[26] }) 3 49 true,
 gop nb 54 (.binOp .gtr 3 (qt 51) (qt 53) 3) 4 49 true,
 gop nb 55 (.move (qt 54)) 4 49 true,
 gop nb 56 (.move (qt 10)) 26 55 false,
 gop nb 57 (.call { callee := .builtin .len, args := #[qt 56], argTypes := #[26] }) 3 55 false,
 gop nb 58 (.move (qt 7)) 26 55 false,
 gop nb 59 (.call { callee := .builtin .len, args := #[qt 58], argTypes := #[26] }) 3 55 false,
 gop nb 60 (.binOp .eql 3 (qt 57) (qt 59) 3) 4 55 false,
 gop nb 61 (.move (qt 60)) 4 55 false,
 gop nb 62 (.move (qt 10)) 26 61 true,
 gop nb 63 (.move (qt 7)) 26 61 true,
 gop nb 64 (.call { callee := .value (.func 62), args := #[qt 62, qt 63], argTypes := #[26, 26] }) 3 61 true,
 gop nb 65 (.binOp .gtr 3 (qt 64) (qi 0) 3) 4 61 true,
 gop nb 66 (.pick (qt 61) (qt 65) (.const (.bool false))) 4 55 false,
 gop nb 67 (.pick (qt 55) (.const (.bool true)) (qt 66)) 4 49 true,
 sop nb 68 (.pick (qt 49) (qt 67) (.const (.bool false))) 4]) (
    .cond (qt 68) (
     .exit 1) (
     .skip))) (
    .seq (
    .ops [qld nb 70 24 3,
 qmv nb 71 1 26,
 qmv nb 72 11 26,
 qcl nb 73 33 #[qt 70, qt 71, qt 72, qi 0] #[24, 26, 26, 3] 51,
 qmv nb 69 73 51,
 qex nb 74 69 0 26,
 qex nb 75 69 1 4,
 qsg nb 13 74 26,
 qsg nb 14 75 4]) (
    .seq (
    .ops [qmv nb 76 14 4]) (
    .cond (qt 76) (
     .ops [qmv nb 77 10 26,
 qsg nb 7 77 26,
 sop nb 8 (.assign (.const (.bool true))) 4]) (
     .skip)))))))) (
   .ops [qmv nb 22 9 3,
 qbo nb 23 .add 3 22 (qi 1) 3 3,
 qsg nb 9 23 3])))))) (
 .seq (
 .ops [qmv nb 78 7 26,
 qsg nb 6 78 26]) (
 .ret))))
@[go_sem] theorem rs34 : Go.Proofs.Try.f34.results.toList = [.tmp 6] := by kernel_rfl
theorem en34 : Enters Q 34 := enters_of Go.Proofs.Try.func34 rfl (by kernel_rfl)
theorem k34 (nb : Nat) : sk nb Go.Proofs.Try.f34.ntmps (Go.Proofs.Try.f34.body.getD .skip) = some (c34 nb) := by kernel_rfl
theorem w34 {a : List Arg} {r : RV} (h : W Q (c34 0) [] ⟨ρ0 (a.map fun a => a.m.lv), h0⟩ (retG Q Go.Proofs.Try.f34.results.toList (retF r))) (l : Nat.ble a.length Go.Proofs.Try.f34.ntmps = true := by kernel_rfl) : Fn Q 34 a r := fn_intro Go.Proofs.Try.func34 rfl (by kernel_rfl) mix (k34 0) (Nat.le_of_ble_eq_true l) h
/-- smalto/smaltoref07.Numbers -/
noncomputable def c69 (nb : Nat) : SC :=
 .seq (
 .ops [sop nb 4 (.assign (.const (.slice none 0 0))) 26]) (
 .seq (
 .ops [sop nb 7 (.buildSlice 26 0 #[]) 26,
 qsg nb 5 7 26]) (
 .seq (
 .seq (
 .ops [sop nb 6 (.assign (qi 0)) 3]) (
 .block 0 (
  .loop (
   .seq (
   .seq (
   .ops [qmv nb 8 6 3,
 qmv nb 9 1 3,
 qbo nb 10 .lss 3 8 (qt 9) 3 4]) (
   .cond (qt 10) (
    .skip) (
    .exit 0))) (
   .seq (
   .block 1 (
    .seq (
    .ops [qmv nb 13 0 3,
 qmv nb 14 6 3,
 sop nb 15 (.convert 3 102 (qt 14)) 102,
 qbo nb 16 .shr 3 13 (qt 15) 102 3,
 qbo nb 17 .and 3 16 (qi 1) 3 3,
 qbo nb 18 .eql 3 17 (qi 1) 3 4]) (
    .cond (qt 18) (
     .ops [qmv nb 19 5 26,
 qmv nb 20 6 3,
 sop nb 21 (.buildSlice 26 1 #[(0, qt 20)]) 26,
 sop nb 22 (.call { callee := .builtin .append, args := #[qt 19, qt 21], argTypes := #[26, 26] }) 26,
 qsg nb 5 22 26]) (
     .skip)))) (
   .ops [qmv nb 11 6 3,
 qbo nb 12 .add 3 11 (qi 1) 3 3,
 qsg nb 6 12 3])))))) (
 .seq (
 .ops [qmv nb 23 5 26,
 qsg nb 4 23 26]) (
 .ret))))
@[go_sem] theorem rs69 : Go.Proofs.Try.f69.results.toList = [.tmp 4] := by kernel_rfl
theorem en69 : Enters Q 69 := enters_of Go.Proofs.Try.func69 rfl (by kernel_rfl)
theorem k69 (nb : Nat) : sk nb Go.Proofs.Try.f69.ntmps (Go.Proofs.Try.f69.body.getD .skip) = some (c69 nb) := by kernel_rfl
theorem w69 {a : List Arg} {r : RV} (h : W Q (c69 0) [] ⟨ρ0 (a.map fun a => a.m.lv), h0⟩ (retG Q Go.Proofs.Try.f69.results.toList (retF r))) (l : Nat.ble a.length Go.Proofs.Try.f69.ntmps = true := by kernel_rfl) : Fn Q 69 a r := fn_intro Go.Proofs.Try.func69 rfl (by kernel_rfl) mix (k69 0) (Nat.le_of_ble_eq_true l) h
end S07

namespace S07
open Go Abs
/-- smalto/smaltolaw07.StencilLays -/
noncomputable def c4 (nb : Nat) : SC :=
 .seq (
 .ops [sop nb 3 (.box 24 (qt 0)) 0,
 sop nb 6 (.assign (.const (.bool false))) 4]) (
 .seq (
 .seq (
 .ops [qld nb 17 24 3,
 qmv nb 18 1 26,
 qmv nb 19 2 26,
 sop nb 20 (.buildSlice 25 2 #[(0, qt 18), (1, qt 19)]) 25,
 qcl nb 21 13 #[qt 17, qt 20] #[24, 25] 4]) (
 .cond (qt 21) (
  .seq (
  .ops [qcl nb 22 14 #[] #[] 4,
 qsg nb 6 22 4]) (
  .ret)) (
  .skip))) (
 .seq (
 .ops [qld nb 23 24 3,
 qcl nb 24 15 #[qt 23] #[24] 24,
 qmv nb 25 1 26,
 qcl nb 26 17 #[qt 25] #[26] 26,
 qmv nb 27 2 26,
 qcl nb 28 17 #[qt 27] #[26] 26,
 sop nb 7 (.alloc 24) 0,
 nop (.store 24 (qt 7) (qt 24)) 0,
 qsg nb 8 26 26,
 qsg nb 9 28 26]) (
 .seq (
 .ops [qld nb 30 24 7,
 qmv nb 31 8 26,
 qmv nb 32 9 26,
 qcl nb 33 29 #[qt 30, qt 31, qt 32] #[24, 26, 26] 35,
 qmv nb 29 33 35,
 qex nb 34 29 0 26,
 qex nb 35 29 1 34,
 qsg nb 10 34 26,
 qsg nb 11 35 34]) (
 .seq (
 .ops [qld nb 37 24 7,
 qmv nb 38 8 26,
 qmv nb 39 9 26,
 qcl nb 40 30 #[qt 37, qt 38, qt 39] #[24, 26, 26] 35,
 qmv nb 36 40 35,
 qex nb 41 36 0 26,
 qex nb 42 36 1 34,
 qsg nb 12 41 26,
 qsg nb 13 42 34]) (
 .seq (
 .seq (
 .ops [qld nb 43 24 7,
 qld nb 44 24 3,
 qcl nb 45 20 #[qt 43, qt 44] #[24, 24] 4,
 sop nb 46 (.unOp .not 4 (qt 45)) 4,
 qmv nb 47 46 4,
 gop nb 48 (.move (qt 8)) 26 47 false,
 gop nb 49 (.move (qt 1)) 26 47 false,
 gop nb 50 (.call { callee := .value (.func 22), args := #[qt 48, qt 49], argTypes := #[26, 26] }) 4 47 false,
 gop nb 51 (.unOp .not 4 (qt 50)) 4 47 false,
 sop nb 52 (.pick (qt 47) (.const (.bool true)) (qt 51)) 4,
 qmv nb 53 52 4,
 gop nb 54 (.move (qt 9)) 26 53 false,
 gop nb 55 (.move (qt 2)) 26 53 false,
 gop nb 56 (.call { callee := .value (.func 22), args := #[qt 54, qt 55], argTypes := #[26, 26] }) 4 53 false,
 gop nb 57 (.unOp .not 4 (qt 56)) 4 53 false,
 sop nb 58 (.pick (qt 53) (.const (.bool true)) (qt 57)) 4]) (
 .cond (qt 58) (
  .seq (
  .ops [sop nb 6 (.assign (.const (.bool false))) 4]) (
  .ret)) (
  .skip))) (
 .seq (
 .ops [qld nb 59 24 3,
 qcl nb 60 23 #[qt 59] #[24] 34,
 qsg nb 14 60 34]) (
 .seq (
 .seq (
 .ops [qmv nb 61 14 34,
 qbo nb 62 .eql 34 61 (qi 0) 34 4,
 qmv nb 63 62 4,
 gop nb 64 (.load 24 (qt 3)) 24 63 true,
 gop nb 65 (.move (qt 2)) 26 63 true,
 gop nb 66 (.call { callee := .value (.func 31), args := #[qt 64, qt 65], argTypes := #[24, 26] }) 4 63 true,
 gop nb 67 (.unOp .not 4 (qt 66)) 4 63 true,
 gop nb 68 (.move (qt 67)) 4 63 true,
 gop nb 69 (.load 24 (qt 3)) 24 68 false,
 gop nb 70 (.move (qt 1)) 26 68 false,
 gop nb 71 (.call { callee := .value (.func 32), args := #[qt 69, qt 70, qi 5], argTypes := #[24, 26, 3] }) 4 68 false,
 gop nb 72 (.unOp .not 4 (qt 71)) 4 68 false,
 gop nb 73 (.pick (qt 68) (.const (.bool true)) (qt 72)) 4 63 true,
 sop nb 74 (.pick (qt 63) (qt 73) (.const (.bool false))) 4]) (
 .cond (qt 74) (
  .ops [sop nb 14 (.assign (qi 4)) 34]) (
  .skip))) (
 .seq (
 .seq (
 .ops [qmv nb 75 14 34,
 qbo nb 76 .neq 34 75 (qi 0) 34 4]) (
 .cond (qt 76) (
  .seq (
  .ops [qmv nb 77 11 34,
 qmv nb 78 14 34,
 qbo nb 79 .eql 34 77 (qt 78) 34 4,
 qmv nb 80 79 4,
 gop nb 81 (.move (qt 13)) 34 80 true,
 gop nb 82 (.move (qt 14)) 34 80 true,
 gop nb 83 (.binOp .eql 34 (qt 81) (qt 82) 34) 4 80 true,
 sop nb 84 (.pick (qt 80) (qt 83) (.const (.bool false))) 4,
 qmv nb 85 84 4,
 gop nb 86 (.move (qt 10)) 26 85 true,
 gop nb 87 (.call { callee := .builtin .len, args := #[qt 86], argTypes := #[26] }) 3 85 true,
 gop nb 88 (.move (qt 12)) 26 85 true,
 gop nb 89 (.call { callee := .builtin .len, args := #[qt 88], argTypes := #[26] }) 3 85 true,
 gop nb 90 (.binOp .add 3 (qt 87) (qt 89) 3) 3 85 true,
 gop nb 91 (.binOp .eql 3 (qt 90) (qi 0) 3) 4 85 true,
 sop nb 92 (.pick (qt 85) (qt 91) (.const (.bool false))) 4,
 qmv nb 93 92 4,
 gop nb 94 (.call { callee := .value (.func 14), args := #[], argTypes := #[] }) 4 93 true,
 sop nb 95 (.pick (qt 93) (qt 94) (.const (.bool false))) 4,
 qsg nb 6 95 4]) (
  .ret)) (
  .skip))) (
 .seq (
 .seq (
 .ops [qld nb 97 24 3,
 qmv nb 98 1 26,
 qmv nb 99 2 26,
 qcl nb 100 33 #[qt 97, qt 98, qt 99, qi 0] #[24, 26, 26, 3] 51,
 qmv nb 96 100 51,
 qex nb 101 96 0 26,
 qex nb 102 96 1 4,
 qsg nb 15 101 26,
 qsg nb 16 102 4]) (
 .seq (
 .ops [qmv nb 103 16 4]) (
 .cond (qt 103) (
  .seq (
  .ops [qmv nb 104 11 34,
 qbo nb 105 .eql 34 104 (qi 0) 34 4,
 qmv nb 106 105 4,
 gop nb 107 (.move (qt 10)) 26 106 true,
 gop nb 108 (.move (qt 15)) 26 106 true,
 gop nb 109 (.call { callee := .value (.func 22), args := #[qt 107, qt 108], argTypes := #[26, 26] }) 4 106 true,
 sop nb 110 (.pick (qt 106) (qt 109) (.const (.bool false))) 4,
 qmv nb 111 110 4,
 gop nb 112 (.move (qt 13)) 34 111 true,
 gop nb 113 (.binOp .eql 34 (qt 112) (qi 6) 34) 4 111 true,
 sop nb 114 (.pick (qt 111) (qt 113) (.const (.bool false))) 4,
 qmv nb 115 114 4,
 gop nb 116 (.move (qt 12)) 26 115 true,
 gop nb 117 (.call { callee := .builtin .len, args := #[qt 116], argTypes := #[26] }) 3 115 true,
 gop nb 118 (.binOp .eql 3 (qt 117) (qi 0) 3) 4 115 true,
 sop nb 119 (.pick (qt 115) (qt 118) (.const (.bool false))) 4,
 qmv nb 120 119 4,
 gop nb 121 (.call { callee := .value (.func 14), args := #[], argTypes := #[] }) 4 120 true,
 sop nb 122 (.pick (qt 120) (qt 121) (.const (.bool false))) 4,
 qsg nb 6 122 4]) (
  .ret)) (
  .skip)))) (
 .seq (
 .ops [qmv nb 123 11 34,
 qbo nb 124 .eql 34 123 (qi 7) 34 4,
 qmv nb 125 124 4,
 gop nb 126 (.move (qt 10)) 26 125 true,
 gop nb 127 (.call { callee := .builtin .len, args := #[qt 126], argTypes := #[26] }) 3 125 true,
 gop nb 128 (.binOp .eql 3 (qt 127) (qi 0) 3) 4 125 true,
 sop nb 129 (.pick (qt 125) (qt 128) (.const (.bool false))) 4,
 qmv nb 130 129 4,
 gop nb 131 (.move (qt 13)) 34 130 true,
 gop nb 132 (.binOp .eql 34 (qt 131) (qi 0) 34) 4 130 true,
 sop nb 133 (.pick (qt 130) (qt 132) (.const (.bool false))) 4,
 qmv nb 134 133 4,
 gop nb 135 (.move (qt 12)) 26 134 true,
 gop nb 136 (.load 24 (qt 3)) 24 134 true,
 gop nb 137 (.move (qt 1)) 26 134 true,
 gop nb 138 (.move (qt 2)) 26 134 true,
 gop nb 139 (.call { callee := .value (.func 34), args := #[qt 136, qt 137, qt 138], argTypes := #[24, 26, 26] }) 26 134 true,
 gop nb 140 (.call { callee := .value (.func 22), args := #[qt 135, qt 139], argTypes := #[26, 26] }) 4 134 true,
 sop nb 141 (.pick (qt 134) (qt 140) (.const (.bool false))) 4,
 qmv nb 142 141 4,
 gop nb 143 (.call { callee := .value (.func 14), args := #[], argTypes := #[] }) 4 142 true,
 sop nb 144 (.pick (qt 142) (qt 143) (.const (.bool false))) 4,
 qsg nb 6 144 4]) (
 .ret)))))))))))
@[go_sem] theorem rs4 : Go.Proofs.Try.f4.results.toList = [.tmp 6] := by kernel_rfl
theorem en4 : Enters Q 4 := enters_of Go.Proofs.Try.func4 rfl (by kernel_rfl)
theorem k4 (nb : Nat) : sk nb Go.Proofs.Try.f4.ntmps (Go.Proofs.Try.f4.body.getD .skip) = some (c4 nb) := by kernel_rfl
theorem w4 {a : List Arg} {r : RV} (h : W Q (c4 0) [] ⟨ρ0 (a.map fun a => a.m.lv), h0⟩ (retG Q Go.Proofs.Try.f4.results.toList (retF r))) (l : Nat.ble a.length Go.Proofs.Try.f4.ntmps = true := by kernel_rfl) : Fn Q 4 a r := fn_intro Go.Proofs.Try.func4 rfl (by kernel_rfl) mix (k4 0) (Nat.le_of_ble_eq_true l) h
end S07

