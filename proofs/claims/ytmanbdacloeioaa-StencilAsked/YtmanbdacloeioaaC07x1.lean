/- A part of the proof: C07x1. -/
import Derived.Test.YtmanbdacloeioaaF07
set_option linter.unusedVariables false
set_option linter.unusedSimpArgs false
set_option maxRecDepth 20000
namespace S07
open Go Abs
/-- smalto/stencil.newHeap -/
noncomputable def c73 (nb : Nat) : SC :=
 .seq (
 .ops [sop nb 4 (.box 24 (.tmp 0)) 0,
 sop nb 8 (.alloc 129) 0,
 sop nb 9 (.assign (.const (.int .i64 0))) 34]) (
 .seq (
 .ops [sop nb 12 (.load 24 (.tmp 4)) 24,
 sop nb 13 (.call { callee := .value (.func 82), args := #[(.tmp 12)], argTypes := #[24] }) 117,
 sop nb 11 (.move (.tmp 13)) 117,
 sop nb 14 (.extract (.tmp 11) 0) 108,
 sop nb 15 (.extract (.tmp 11) 1) 34,
 sop nb 10 (.alloc 108) 0,
   ⟨none, (.store 108 (.tmp 10) (.tmp 14)), 0, none, none⟩,
 sop nb 9 (.assign (.tmp 15)) 34]) (
 .seq (
 .block 0 (
  .seq (
  .ops [sop nb 17 (.move (.tmp 9)) 34,
    sop nb 18 (.binOp .neq 34 (.tmp 17) (.const (.int .i64 0)) 34) 4,
    sop nb 16 (.assign (.tmp 18)) 4]) (
  .cond (.tmp 16) (
   .seq (
   .ops [sop nb 19 (.load 129 (.tmp 8)) 129,
     sop nb 20 (.move (.tmp 9)) 34,
     ⟨none, (.store 129 (.tmp 8) (.tmp 19)), 0, none, none⟩,
     sop nb 9 (.assign (.tmp 20)) 34]) (
   .ret)) (
   .seq (
   .ops [sop nb 22 (.move (.tmp 1)) 25,
     sop nb 23 (.call { callee := .builtin .len, args := #[(.tmp 22)], argTypes := #[25] }) 3,
     sop nb 24 (.binOp .gtr 3 (.tmp 23) (.const (.int .i64 4)) 3) 4,
     sop nb 21 (.assign (.tmp 24)) 4]) (
   .cond (.tmp 21) (
    .seq (
    .ops [sop nb 25 (.load 129 (.tmp 8)) 129,
      ⟨none, (.store 129 (.tmp 8) (.tmp 25)), 0, none, none⟩,
      sop nb 9 (.assign (.const (.int .i64 5))) 34]) (
    .ret)) (
    .seq (
    .seq (
    .ops [sop nb 27 (.move (.tmp 1)) 25,
      sop nb 28 (.makeFunc (.func 91) #[] #[(.tmp 10)]) 154,
      sop nb 29 (.call { callee := .value (.func 90), args := #[(.tmp 27), (.tmp 28)], argTypes := #[25, 154] }) 4,
      sop nb 26 (.assign (.tmp 29)) 4]) (
    .cond (.tmp 26) (
     .skip) (
     .ops [sop nb 30 (.load 108 (.tmp 10)) 108,
       sop nb 31 (.move (.tmp 2)) 26,
       sop nb 32 (.call { callee := .value (.func 89), args := #[(.tmp 30), (.tmp 31), (.const (.int .i64 20))], argTypes := #[108, 26, 3] }) 4,
       sop nb 33 (.unOp .not 4 (.tmp 32)) 4,
       sop nb 26 (.assign (.tmp 33)) 4]))) (
    .cond (.tmp 26) (
     .seq (
     .ops [sop nb 34 (.load 129 (.tmp 8)) 129,
       ⟨none, (.store 129 (.tmp 8) (.tmp 34)), 0, none, none⟩,
       sop nb 9 (.assign (.const (.int .i64 4))) 34]) (
     .ret)) (
     .seq (
     .ops [sop nb 36 (.move (.tmp 3)) 3,
       sop nb 37 (.buildSlice 26 1 #[(0, (.tmp 36))]) 26,
       sop nb 38 (.call { callee := .value (.func 87), args := #[(.const (.int .i64 0)), (.const (.int .i64 20)), (.tmp 37)], argTypes := #[3, 3, 26] }) 4,
       sop nb 39 (.unOp .not 4 (.tmp 38)) 4,
       sop nb 35 (.assign (.tmp 39)) 4]) (
     .cond (.tmp 35) (
      .seq (
      .ops [sop nb 40 (.load 129 (.tmp 8)) 129,
        ⟨none, (.store 129 (.tmp 8) (.tmp 40)), 0, none, none⟩,
        sop nb 9 (.assign (.const (.int .i64 3))) 34]) (
      .ret)) (
      .skip)))))))))) (
 .seq (
 .ops [sop nb 41 (.load 108 (.tmp 10)) 108,
 sop nb 42 (.move (.tmp 1)) 25,
 sop nb 43 (.move (.tmp 2)) 26,
 sop nb 44 (.move (.tmp 3)) 3,
 sop nb 45 (.build 129 #[(0, (.tmp 41)), (1, (.tmp 42)), (2, (.tmp 43)), (3, (.tmp 44))]) 129,
   ⟨none, (.store 129 (.tmp 8) (.tmp 45)), 0, none, none⟩,
 sop nb 9 (.assign (.const (.int .i64 0))) 34]) (
 .ret))))
@[go_sem] theorem rs73 : Go.Proofs.Try.f73.results.toList = [.cell 8 129, .tmp 9] := by kernel_rfl
theorem en73 : Enters Q 73 := enters_of Go.Proofs.Try.func73 rfl (by kernel_rfl)
theorem k73 (nb : Nat) : sk nb Go.Proofs.Try.f73.ntmps (Go.Proofs.Try.f73.body.getD .skip) = some (c73 nb) := by kernel_rfl
/-- slices.Collect[[]int] -/
noncomputable def c74 (nb : Nat) : SC :=
 .seq (
 .ops [sop nb 2 (.assign (.const (.slice none 0 0))) 25]) (
 .seq (
 .ops [sop nb 3 (.move (.tmp 0)) 155,
 sop nb 4 (.call { callee := .value (.func 92), args := #[(.const (.slice none 0 0)), (.tmp 3)], argTypes := #[25, 155] }) 25,
 sop nb 2 (.assign (.tmp 4)) 25]) (
 .ret))
@[go_sem] theorem rs74 : Go.Proofs.Try.f74.results.toList = [.tmp 2] := by kernel_rfl
theorem en74 : Enters Q 74 := enters_of Go.Proofs.Try.func74 rfl (by kernel_rfl)
theorem k74 (nb : Nat) : sk nb Go.Proofs.Try.f74.ntmps (Go.Proofs.Try.f74.body.getD .skip) = some (c74 nb) := by kernel_rfl
/-- (smalto/stencil.heap).lists -/
noncomputable def c75 (nb : Nat) : SC :=
 .seq (
 .ops [sop nb 2 (.box 129 (.tmp 0)) 0,
 sop nb 3 (.box 154 (.tmp 1)) 0]) (
 .seq (
 .ops [sop nb 4 (.alloc 157) 0]) (
 .seq (
 .ops [sop nb 5 (.makeFunc (.func 93) #[] #[(.tmp 2), (.tmp 3), (.tmp 4)]) 157,
   ⟨none, (.store 157 (.tmp 4) (.tmp 5)), 0, none, none⟩]) (
 .opsD [sop nb 6 (.load 157 (.tmp 4)) 157,
 sop nb 7 (.fieldAddr 129 (.tmp 2) 0) 0,
 sop nb 8 (.load 108 (.tmp 7)) 108,
 sop nb 9 (.nilCheck (.tmp 8)) 0,
 sop nb 10 (.fieldAddr 123 (.tmp 9) 0) 0,
 sop nb 11 (.fieldAddr 24 (.tmp 10) 0) 0,
 sop nb 12 (.load 3 (.tmp 11)) 3,
 sop nb 13 (.makeSlice 26 (.tmp 12) (.tmp 12)) 26,
 sop nb 14 (.call { callee := .value (.tmp 6), args := #[(.const (.slice none 0 0)), (.tmp 13), (.const (.int .i64 0))], argTypes := #[26, 26, 3] }) 4] [(0, 7)])))
@[go_sem] theorem rs75 : Go.Proofs.Try.f75.results.toList = [] := by kernel_rfl
theorem en75 : Enters Q 75 := enters_of Go.Proofs.Try.func75 rfl (by kernel_rfl)
theorem k75 (nb : Nat) : sk nb Go.Proofs.Try.f75.ntmps (Go.Proofs.Try.f75.body.getD .skip) = some (c75 nb) := by kernel_rfl
/-- smalto/stencil.reading -/
noncomputable def c78 (nb : Nat) : SC :=
 .seq (
 .ops [sop nb 3 (.box 24 (.tmp 0)) 0,
 sop nb 6 (.assign (.const (.pointer none))) 108,
 sop nb 7 (.assign (.const (.int .i64 0))) 34]) (
 .seq (
 .ops [sop nb 11 (.load 24 (.tmp 3)) 24,
 sop nb 12 (.call { callee := .value (.func 82), args := #[(.tmp 11)], argTypes := #[24] }) 117,
 sop nb 10 (.move (.tmp 12)) 117,
 sop nb 13 (.extract (.tmp 10) 0) 108,
 sop nb 14 (.extract (.tmp 10) 1) 34,
 sop nb 8 (.assign (.tmp 13)) 108,
 sop nb 9 (.assign (.tmp 14)) 34]) (
 .seq (
 .seq (
 .ops [sop nb 15 (.move (.tmp 9)) 34,
 sop nb 16 (.binOp .eql 34 (.tmp 15) (.const (.int .i64 0)) 34) 4,
 sop nb 17 (.move (.tmp 16)) 4,
   ⟨some 18, (.move (.tmp 8)), 108, some (17, true), some (nb + 18)⟩,
   ⟨some 19, (.move (.tmp 1)), 26, some (17, true), some (nb + 19)⟩,
   ⟨some 20, (.call { callee := .value (.func 86), args := #[(.tmp 18), (.tmp 19), (.const (.slice none 0 0))], argTypes := #[108, 26, 26] }), 4, some (17, true), some (nb + 20)⟩,
   ⟨some 21, (.unOp .not 4 (.tmp 20)), 4, some (17, true), some (nb + 21)⟩,
   ⟨some 22, (.move (.tmp 21)), 4, some (17, true), some (nb + 22)⟩,
   ⟨some 23, (.move (.tmp 8)), 108, some (22, false), some (nb + 23)⟩,
   ⟨some 24, (.move (.tmp 2)), 26, some (22, false), some (nb + 24)⟩,
   ⟨some 25, (.buildSlice 26 1 #[(0, (.const (.int .i64 (-1))))]), 26, some (22, false), some (nb + 25)⟩,
   ⟨some 26, (.call { callee := .value (.func 86), args := #[(.tmp 23), (.tmp 24), (.tmp 25)], argTypes := #[108, 26, 26] }), 4, some (22, false), some (nb + 26)⟩,
   ⟨some 27, (.unOp .not 4 (.tmp 26)), 4, some (22, false), some (nb + 27)⟩,
   ⟨some 28, (.pick (.tmp 22) (.const (.bool true)) (.tmp 27)), 4, some (17, true), some (nb + 28)⟩,
   ⟨some 29, (.move (.tmp 28)), 4, some (17, true), some (nb + 29)⟩,
   ⟨some 30, (.move (.tmp 1)), 26, some (29, false), some (nb + 30)⟩,
   ⟨some 31, (.call { callee := .builtin .len, args := #[(.tmp 30)], argTypes := #[26] }), 3, some (29, false), some (nb + 31)⟩,
   ⟨some 32, (.move (.tmp 2)), 26, some (29, false), some (nb + 32)⟩,
   ⟨some 33, (.call { callee := .builtin .len, args := #[(.tmp 32)], argTypes := #[26] }), 3, some (29, false), some (nb + 33)⟩,
   ⟨some 34, (.binOp .neq 3 (.tmp 31) (.tmp 33) 3), 4, some (29, false), some (nb + 34)⟩,
   ⟨some 35, (.pick (.tmp 29) (.const (.bool true)) (.tmp 34)), 4, some (17, true), some (nb + 35)⟩,
 sop nb 36 (.pick (.tmp 17) (.tmp 35) (.const (.bool false))) 4]) (
 .cond (.tmp 36) (
  .ops [sop nb 9 (.assign (.const (.int .i64 4))) 34]) (
  .skip))) (
 .seq (
 .ops [sop nb 37 (.move (.tmp 8)) 108,
 sop nb 38 (.move (.tmp 9)) 34,
 sop nb 6 (.assign (.tmp 37)) 108,
 sop nb 7 (.assign (.tmp 38)) 34]) (
 .ret))))
@[go_sem] theorem rs78 : Go.Proofs.Try.f78.results.toList = [.tmp 6, .tmp 7] := by kernel_rfl
theorem en78 : Enters Q 78 := enters_of Go.Proofs.Try.func78 rfl (by kernel_rfl)
theorem k78 (nb : Nat) : sk nb Go.Proofs.Try.f78.ntmps (Go.Proofs.Try.f78.body.getD .skip) = some (c78 nb) := by kernel_rfl
/-- (*smalto/stencil.alphabet).ways -/
noncomputable def c79 (nb : Nat) : SC :=
 .seq (
 .ops [sop nb 5 (.box 3 (.tmp 2)) 0,
 sop nb 6 (.alloc 138) 0]) (
 .seq (
 .seq (
 .ops [sop nb 9 (.move (.tmp 0)) 108,
 sop nb 10 (.move (.tmp 1)) 3,
 sop nb 11 (.call { callee := .value (.func 96), args := #[(.tmp 9), (.tmp 10)], argTypes := #[108, 3] }) 158]) (
 .block 0 (
  .rangeF (.tmp 11) [12, 13] (
   .seq (
   .ops [sop nb 7 (.alloc 141) 0,
     ⟨none, (.store 141 (.tmp 7) (.tmp 12)), 0, none, none⟩]) (
   .ops [sop nb 8 (.assign (.tmp 13)) 3])) (
   .block 1 (
    .seq (
    .ops [sop nb 14 (.move (.tmp 8)) 3,
      sop nb 15 (.load 3 (.tmp 5)) 3,
      sop nb 16 (.binOp .eql 3 (.tmp 14) (.tmp 15) 3) 4]) (
    .cond (.tmp 16) (
     .ops [sop nb 17 (.load 138 (.tmp 6)) 138,
       sop nb 18 (.load 141 (.tmp 7)) 141,
       sop nb 19 (.buildSlice 138 1 #[(0, (.tmp 18))]) 138,
       sop nb 20 (.call { callee := .builtin .append, args := #[(.tmp 17), (.tmp 19)], argTypes := #[138, 138] }) 138,
       ⟨none, (.store 138 (.tmp 6) (.tmp 20)), 0, none, none⟩]) (
     .skip))))))) (
 .seq (
 .ops [sop nb 21 (.load 138 (.tmp 6)) 138,
   ⟨none, (.store 138 (.tmp 6) (.tmp 21)), 0, none, none⟩]) (
 .ret)))
@[go_sem] theorem rs79 : Go.Proofs.Try.f79.results.toList = [.cell 6 138] := by kernel_rfl
theorem en79 : Enters Q 79 := enters_of Go.Proofs.Try.func79 rfl (by kernel_rfl)
theorem k79 (nb : Nat) : sk nb Go.Proofs.Try.f79.ntmps (Go.Proofs.Try.f79.body.getD .skip) = some (c79 nb) := by kernel_rfl
/-- slices.Compact[[]smalto/api.StencilKind,smalto/api.StencilKind] -/
noncomputable def c80 (nb : Nat) : SC :=
 .seq (
 .ops [sop nb 2 (.assign (.const (.slice none 0 0))) 82]) (
 .seq (
 .seq (
 .ops [sop nb 6 (.move (.tmp 0)) 82,
 sop nb 7 (.call { callee := .builtin .len, args := #[(.tmp 6)], argTypes := #[82] }) 3,
 sop nb 8 (.binOp .lss 3 (.tmp 7) (.const (.int .i64 2)) 3) 4]) (
 .cond (.tmp 8) (
  .seq (
  .ops [sop nb 9 (.move (.tmp 0)) 82,
    sop nb 2 (.assign (.tmp 9)) 82]) (
  .ret)) (
  .skip))) (
 .seq (
 .seq (
 .ops [sop nb 3 (.assign (.const (.int .i64 1))) 3]) (
 .block 0 (
  .loop (
   .seq (
   .seq (
   .ops [sop nb 10 (.move (.tmp 3)) 3,
     sop nb 11 (.move (.tmp 0)) 82,
     sop nb 12 (.call { callee := .builtin .len, args := #[(.tmp 11)], argTypes := #[82] }) 3,
     sop nb 13 (.binOp .lss 3 (.tmp 10) (.tmp 12) 3) 4]) (
   .cond (.tmp 13) (
    .skip) (
    .exit 0))) (
   .seq (
   .block 1 (
    .seq (
    .ops [sop nb 16 (.move (.tmp 0)) 82,
      sop nb 17 (.move (.tmp 3)) 3,
      sop nb 18 (.indexAddr 82 (.tmp 16) (.tmp 17)) 0,
      sop nb 19 (.load 76 (.tmp 18)) 76,
      sop nb 20 (.move (.tmp 0)) 82,
      sop nb 21 (.move (.tmp 3)) 3,
      sop nb 22 (.binOp .sub 3 (.tmp 21) (.const (.int .i64 1)) 3) 3,
      sop nb 23 (.indexAddr 82 (.tmp 20) (.tmp 22)) 0,
      sop nb 24 (.load 76 (.tmp 23)) 76,
      sop nb 25 (.binOp .eql 76 (.tmp 19) (.tmp 24) 76) 4]) (
    .cond (.tmp 25) (
     .seq (
     .ops [sop nb 26 (.move (.tmp 0)) 82,
       sop nb 27 (.move (.tmp 3)) 3,
       sop nb 28 (.slice 82 (.tmp 26) (some (.tmp 27)) none none) 82,
       sop nb 4 (.assign (.tmp 28)) 82]) (
     .seq (
     .seq (
     .ops [sop nb 5 (.assign (.const (.int .i64 1))) 3]) (
     .block 2 (
      .loop (
       .seq (
       .seq (
       .ops [sop nb 29 (.move (.tmp 5)) 3,
         sop nb 30 (.move (.tmp 4)) 82,
         sop nb 31 (.call { callee := .builtin .len, args := #[(.tmp 30)], argTypes := #[82] }) 3,
         sop nb 32 (.binOp .lss 3 (.tmp 29) (.tmp 31) 3) 4]) (
       .cond (.tmp 32) (
        .skip) (
        .exit 2))) (
       .seq (
       .block 3 (
        .seq (
        .ops [sop nb 35 (.move (.tmp 4)) 82,
          sop nb 36 (.move (.tmp 5)) 3,
          sop nb 37 (.indexAddr 82 (.tmp 35) (.tmp 36)) 0,
          sop nb 38 (.load 76 (.tmp 37)) 76,
          sop nb 39 (.move (.tmp 4)) 82,
          sop nb 40 (.move (.tmp 5)) 3,
          sop nb 41 (.binOp .sub 3 (.tmp 40) (.const (.int .i64 1)) 3) 3,
          sop nb 42 (.indexAddr 82 (.tmp 39) (.tmp 41)) 0,
          sop nb 43 (.load 76 (.tmp 42)) 76,
          sop nb 44 (.binOp .neq 76 (.tmp 38) (.tmp 43) 76) 4]) (
        .cond (.tmp 44) (
         .seq (
         .ops [sop nb 45 (.move (.tmp 0)) 82,
           sop nb 46 (.move (.tmp 3)) 3,
           sop nb 47 (.move (.tmp 4)) 82,
           sop nb 48 (.move (.tmp 5)) 3,
           sop nb 49 (.indexAddr 82 (.tmp 47) (.tmp 48)) 0,
           sop nb 50 (.load 76 (.tmp 49)) 76,
           sop nb 51 (.indexAddr 82 (.tmp 45) (.tmp 46)) 0,
           ⟨none, (.store 76 (.tmp 51) (.tmp 50)), 0, none, none⟩]) (
         .ops [sop nb 52 (.move (.tmp 3)) 3,
           sop nb 53 (.binOp .add 3 (.tmp 52) (.const (.int .i64 1)) 3) 3,
           sop nb 3 (.assign (.tmp 53)) 3])) (
         .skip)))) (
       .ops [sop nb 33 (.move (.tmp 5)) 3,
         sop nb 34 (.binOp .add 3 (.tmp 33) (.const (.int .i64 1)) 3) 3,
         sop nb 5 (.assign (.tmp 34)) 3])))))) (
     .seq (
     .ops [sop nb 54 (.move (.tmp 0)) 82,
       sop nb 55 (.move (.tmp 3)) 3,
       sop nb 56 (.slice 82 (.tmp 54) (some (.tmp 55)) none none) 82,
       ⟨none, (.call { callee := .builtin .clear, args := #[(.tmp 56)], argTypes := #[82] }), 0, none, none⟩]) (
     .seq (
     .ops [sop nb 57 (.move (.tmp 0)) 82,
       sop nb 58 (.move (.tmp 3)) 3,
       sop nb 59 (.slice 82 (.tmp 57) none (some (.tmp 58)) none) 82,
       sop nb 2 (.assign (.tmp 59)) 82]) (
     .ret))))) (
     .skip)))) (
   .ops [sop nb 14 (.move (.tmp 3)) 3,
     sop nb 15 (.binOp .add 3 (.tmp 14) (.const (.int .i64 1)) 3) 3,
     sop nb 3 (.assign (.tmp 15)) 3])))))) (
 .seq (
 .ops [sop nb 60 (.move (.tmp 0)) 82,
 sop nb 2 (.assign (.tmp 60)) 82]) (
 .ret))))
@[go_sem] theorem rs80 : Go.Proofs.Try.f80.results.toList = [.tmp 2] := by kernel_rfl
theorem en80 : Enters Q 80 := enters_of Go.Proofs.Try.func80 rfl (by kernel_rfl)
theorem k80 (nb : Nat) : sk nb Go.Proofs.Try.f80.ntmps (Go.Proofs.Try.f80.body.getD .skip) = some (c80 nb) := by kernel_rfl
/-- (*smalto/stencil.alphabet).fewest -/
noncomputable def c81 (nb : Nat) : SC :=
 .seq (
 .ops [sop nb 6 (.assign (.const (.slice none 0 0))) 82,
 sop nb 7 (.assign (.const (.int .i64 0))) 3,
 sop nb 8 (.assign (.const (.bool false))) 4]) (
 .seq (
 .seq (
 .ops [sop nb 13 (.move (.tmp 1)) 26,
 sop nb 14 (.call { callee := .builtin .len, args := #[(.tmp 13)], argTypes := #[26] }) 3,
 sop nb 15 (.move (.const (.int .i64 0))) 3]) (
 .block 0 (
  .loop (
   .seq (
   .ops [sop nb 16 (.binOp .lss 3 (.tmp 15) (.tmp 14) 3) 0]) (
   .seq (
   .cond (.tmp 16) (
    .skip) (
    .exit 0)) (
   .seq (
   .block 1 (
    .seq (
    .ops [sop nb 17 (.move (.tmp 15)) 3,
      sop nb 18 (.indexAddr 26 (.tmp 13) (.tmp 15)) 0,
      sop nb 19 (.load 3 (.tmp 18)) 3,
      sop nb 9 (.assign (.tmp 17)) 3,
      sop nb 10 (.assign (.tmp 19)) 3]) (
    .seq (
    .ops [sop nb 20 (.move (.tmp 0)) 108,
      sop nb 21 (.move (.tmp 10)) 3,
      sop nb 22 (.move (.tmp 2)) 26,
      sop nb 23 (.move (.tmp 9)) 3,
      sop nb 24 (.indexAddr 26 (.tmp 22) (.tmp 23)) 0,
      sop nb 25 (.load 3 (.tmp 24)) 3,
      sop nb 26 (.call { callee := .value (.func 79), args := #[(.tmp 20), (.tmp 21), (.tmp 25)], argTypes := #[108, 3, 3] }) 138,
      sop nb 11 (.assign (.tmp 26)) 138]) (
    .seq (
    .seq (
    .ops [sop nb 27 (.move (.tmp 11)) 138,
      sop nb 28 (.call { callee := .builtin .len, args := #[(.tmp 27)], argTypes := #[138] }) 3,
      sop nb 29 (.binOp .eql 3 (.tmp 28) (.const (.int .i64 0)) 3) 4]) (
    .cond (.tmp 29) (
     .seq (
     .ops [sop nb 6 (.assign (.const (.slice none 0 0))) 82,
       sop nb 7 (.assign (.const (.int .i64 0))) 3,
       sop nb 8 (.assign (.const (.bool false))) 4]) (
     .ret)) (
     .skip))) (
    .seq (
    .ops [sop nb 30 (.move (.tmp 11)) 138,
      sop nb 31 (.call { callee := .value (.func 97), args := #[(.tmp 30), (.func 98)], argTypes := #[138, 162] }) 141,
      sop nb 12 (.alloc 141) 0,
      ⟨none, (.store 141 (.tmp 12) (.tmp 31)), 0, none, none⟩]) (
    .opsD [sop nb 32 (.move (.tmp 6)) 82,
      sop nb 33 (.fieldAddr 141 (.tmp 12) 0) 0,
      sop nb 34 (.load 76 (.tmp 33)) 76,
      sop nb 35 (.buildSlice 82 1 #[(0, (.tmp 34))]) 82,
      sop nb 36 (.call { callee := .builtin .append, args := #[(.tmp 32), (.tmp 35)], argTypes := #[82, 82] }) 82,
      sop nb 37 (.move (.tmp 7)) 3,
      sop nb 38 (.load 141 (.tmp 12)) 141,
      sop nb 39 (.call { callee := .value (.func 99), args := #[(.tmp 38)], argTypes := #[141] }) 3,
      sop nb 40 (.binOp .add 3 (.tmp 37) (.tmp 39) 3) 3,
      sop nb 6 (.assign (.tmp 36)) 82,
      sop nb 7 (.assign (.tmp 40)) 3] [(3, 6), (4, 6)])))))) (
   .ops [sop nb 41 (.binOp .add 3 (.tmp 15) (.const (.int .i64 1)) 3) 3,
     sop nb 15 (.move (.tmp 41)) 3]))))))) (
 .seq (
 .ops [sop nb 42 (.move (.tmp 6)) 82,
 sop nb 43 (.move (.tmp 7)) 3,
 sop nb 6 (.assign (.tmp 42)) 82,
 sop nb 7 (.assign (.tmp 43)) 3,
 sop nb 8 (.assign (.const (.bool true))) 4]) (
 .ret)))
@[go_sem] theorem rs81 : Go.Proofs.Try.f81.results.toList = [.tmp 6, .tmp 7, .tmp 8] := by kernel_rfl
theorem en81 : Enters Q 81 := enters_of Go.Proofs.Try.func81 rfl (by kernel_rfl)
theorem k81 (nb : Nat) : sk nb Go.Proofs.Try.f81.ntmps (Go.Proofs.Try.f81.body.getD .skip) = some (c81 nb) := by kernel_rfl
/-- smalto/stencil.newAlphabet -/
noncomputable def c82 (nb : Nat) : SC :=
 .seq (
 .ops [sop nb 1 (.box 24 (.tmp 0)) 0,
 sop nb 2 (.assign (.const (.pointer none))) 108,
 sop nb 3 (.assign (.const (.int .i64 0))) 34]) (
 .seq (
 .ops [sop nb 11 (.makeFunc (.func 100) #[] #[(.tmp 1)]) 163,
 sop nb 4 (.alloc 163) 0,
   ⟨none, (.store 163 (.tmp 4) (.tmp 11)), 0, none, none⟩]) (
 .seq (
 .ops [sop nb 12 (.makeFunc (.func 101) #[] #[(.tmp 4)]) 163,
 sop nb 5 (.assign (.tmp 12)) 163]) (
 .seq (
 .block 0 (
  .seq (
  .ops [sop nb 14 (.fieldAddr 24 (.tmp 1) 0) 0,
    sop nb 15 (.load 3 (.tmp 14)) 3,
    sop nb 16 (.buildSlice 26 1 #[(0, (.tmp 15))]) 26,
    sop nb 17 (.call { callee := .value (.func 87), args := #[(.const (.int .i64 1)), (.const (.int .i64 8)), (.tmp 16)], argTypes := #[3, 3, 26] }) 4,
    sop nb 18 (.unOp .not 4 (.tmp 17)) 4,
    sop nb 13 (.assign (.tmp 18)) 4]) (
  .cond (.tmp 13) (
   .seq (
   .ops [sop nb 2 (.assign (.const (.pointer none))) 108,
     sop nb 3 (.assign (.const (.int .i64 4))) 34]) (
   .ret)) (
   .seq (
   .seq (
   .ops [sop nb 20 (.fieldAddr 24 (.tmp 1) 1) 0,
     sop nb 21 (.load 22 (.tmp 20)) 22,
     sop nb 22 (.call { callee := .builtin .len, args := #[(.tmp 21)], argTypes := #[22] }) 3,
     sop nb 23 (.binOp .gtr 3 (.tmp 22) (.const (.int .i64 8)) 3) 4,
     sop nb 19 (.assign (.tmp 23)) 4]) (
   .cond (.tmp 19) (
    .skip) (
    .ops [sop nb 24 (.fieldAddr 24 (.tmp 1) 2) 0,
      sop nb 25 (.load 22 (.tmp 24)) 22,
      sop nb 26 (.call { callee := .builtin .len, args := #[(.tmp 25)], argTypes := #[22] }) 3,
      sop nb 27 (.binOp .gtr 3 (.tmp 26) (.const (.int .i64 8)) 3) 4,
      sop nb 19 (.assign (.tmp 27)) 4]))) (
   .cond (.tmp 19) (
    .seq (
    .ops [sop nb 2 (.assign (.const (.pointer none))) 108,
      sop nb 3 (.assign (.const (.int .i64 5))) 34]) (
    .ret)) (
    .seq (
    .seq (
    .ops [sop nb 29 (.fieldAddr 24 (.tmp 1) 1) 0,
      sop nb 30 (.load 22 (.tmp 29)) 22,
      sop nb 31 (.load 163 (.tmp 4)) 163,
      sop nb 32 (.call { callee := .value (.func 102), args := #[(.tmp 30), (.tmp 31)], argTypes := #[22, 163] }) 4,
      sop nb 28 (.assign (.tmp 32)) 4]) (
    .cond (.tmp 28) (
     .skip) (
     .ops [sop nb 33 (.fieldAddr 24 (.tmp 1) 2) 0,
       sop nb 34 (.load 22 (.tmp 33)) 22,
       sop nb 35 (.move (.tmp 5)) 163,
       sop nb 36 (.call { callee := .value (.func 102), args := #[(.tmp 34), (.tmp 35)], argTypes := #[22, 163] }) 4,
       sop nb 28 (.assign (.tmp 36)) 4]))) (
    .cond (.tmp 28) (
     .seq (
     .ops [sop nb 2 (.assign (.const (.pointer none))) 108,
       sop nb 3 (.assign (.const (.int .i64 2))) 34]) (
     .ret)) (
     .skip)))))))) (
 .seq (
 .ops [sop nb 37 (.load 24 (.tmp 1)) 24,
 sop nb 38 (.makeMap 121 none) 121,
 sop nb 39 (.build 123 #[(0, (.tmp 37)), (2, (.tmp 38))]) 123,
 sop nb 40 (.box 123 (.tmp 39)) 108,
 sop nb 2 (.assign (.tmp 40)) 108]) (
 .seq (
 .seq (
 .ops [sop nb 41 (.move (.const (.int .i64 0))) 3]) (
 .block 1 (
  .loop (
   .seq (
   .ops [sop nb 42 (.binOp .lss 3 (.tmp 41) (.const (.int .i64 8)) 3) 0]) (
   .seq (
   .cond (.tmp 42) (
    .skip) (
    .exit 1)) (
   .seq (
   .block 2 (
    .seq (
    .ops [sop nb 43 (.move (.tmp 41)) 3,
      sop nb 6 (.assign (.tmp 43)) 3]) (
    .ops [sop nb 44 (.move (.tmp 2)) 108,
      sop nb 45 (.move (.tmp 6)) 3,
      sop nb 46 (.nilCheck (.tmp 44)) 0,
      sop nb 47 (.fieldAddr 123 (.tmp 46) 1) 0,
      sop nb 48 (.indexAddr 120 (.tmp 47) (.tmp 45)) 0,
      ⟨none, (.store 3 (.tmp 48) (.const (.int .i64 (-1)))), 0, none, none⟩]))) (
   .ops [sop nb 49 (.binOp .add 3 (.tmp 41) (.const (.int .i64 1)) 3) 3,
     sop nb 41 (.move (.tmp 49)) 3]))))))) (
 .seq (
 .seq (
 .ops [sop nb 50 (.fieldAddr 24 (.tmp 1) 1) 0,
 sop nb 51 (.load 22 (.tmp 50)) 22,
 sop nb 52 (.call { callee := .builtin .len, args := #[(.tmp 51)], argTypes := #[22] }) 3,
 sop nb 53 (.move (.const (.int .i64 0))) 3]) (
 .block 3 (
  .loop (
   .seq (
   .ops [sop nb 54 (.binOp .lss 3 (.tmp 53) (.tmp 52) 3) 0]) (
   .seq (
   .cond (.tmp 54) (
    .skip) (
    .exit 3)) (
   .seq (
   .block 4 (
    .seq (
    .ops [sop nb 55 (.indexAddr 22 (.tmp 51) (.tmp 53)) 0,
      sop nb 56 (.load 115 (.tmp 55)) 115,
      sop nb 8 (.alloc 115) 0,
      ⟨none, (.store 115 (.tmp 8) (.tmp 56)), 0, none, none⟩]) (
    .seq (
    .seq (
    .ops [sop nb 57 (.move (.tmp 2)) 108,
      sop nb 58 (.fieldAddr 115 (.tmp 8) 0) 0,
      sop nb 59 (.load 3 (.tmp 58)) 3,
      sop nb 60 (.nilCheck (.tmp 57)) 0,
      sop nb 61 (.fieldAddr 123 (.tmp 60) 1) 0,
      sop nb 62 (.indexAddr 120 (.tmp 61) (.tmp 59)) 0,
      sop nb 63 (.load 3 (.tmp 62)) 3,
      sop nb 64 (.binOp .neq 3 (.tmp 63) (.const (.int .i64 (-1))) 3) 4,
      sop nb 65 (.move (.tmp 64)) 4,
      ⟨some 66, (.move (.tmp 2)), 108, some (65, false), some (nb + 66)⟩,
      ⟨some 67, (.fieldAddr 115 (.tmp 8) 1), 0, some (65, false), some (nb + 67)⟩,
      ⟨some 68, (.load 3 (.tmp 67)), 3, some (65, false), some (nb + 68)⟩,
      ⟨some 69, (.nilCheck (.tmp 66)), 0, some (65, false), some (nb + 69)⟩,
      ⟨some 70, (.fieldAddr 123 (.tmp 69) 1), 0, some (65, false), some (nb + 70)⟩,
      ⟨some 71, (.indexAddr 120 (.tmp 70) (.tmp 68)), 0, some (65, false), some (nb + 71)⟩,
      ⟨some 72, (.load 3 (.tmp 71)), 3, some (65, false), some (nb + 72)⟩,
      ⟨some 73, (.binOp .neq 3 (.tmp 72) (.const (.int .i64 (-1))) 3), 4, some (65, false), some (nb + 73)⟩,
      sop nb 74 (.pick (.tmp 65) (.const (.bool true)) (.tmp 73)) 4]) (
    .cond (.tmp 74) (
     .seq (
     .ops [sop nb 2 (.assign (.const (.pointer none))) 108,
       sop nb 3 (.assign (.const (.int .i64 6))) 34]) (
     .ret)) (
     .skip))) (
    .opsD [sop nb 75 (.move (.tmp 2)) 108,
      sop nb 76 (.fieldAddr 115 (.tmp 8) 0) 0,
      sop nb 77 (.load 3 (.tmp 76)) 3,
      sop nb 78 (.move (.tmp 2)) 108,
      sop nb 79 (.fieldAddr 115 (.tmp 8) 1) 0,
      sop nb 80 (.load 3 (.tmp 79)) 3,
      sop nb 81 (.fieldAddr 115 (.tmp 8) 1) 0,
      sop nb 82 (.load 3 (.tmp 81)) 3,
      sop nb 83 (.fieldAddr 115 (.tmp 8) 0) 0,
      sop nb 84 (.load 3 (.tmp 83)) 3,
      sop nb 85 (.nilCheck (.tmp 75)) 0,
      sop nb 86 (.fieldAddr 123 (.tmp 85) 1) 0,
      sop nb 87 (.indexAddr 120 (.tmp 86) (.tmp 77)) 0,
      ⟨none, (.store 3 (.tmp 87) (.tmp 82)), 0, none, none⟩,
      sop nb 88 (.nilCheck (.tmp 78)) 0,
      sop nb 89 (.fieldAddr 123 (.tmp 88) 1) 0,
      sop nb 90 (.indexAddr 120 (.tmp 89) (.tmp 80)) 0,
      ⟨none, (.store 3 (.tmp 90) (.tmp 84)), 0, none, none⟩] [(5, 13), (9, 13)])))) (
   .ops [sop nb 91 (.binOp .add 3 (.tmp 53) (.const (.int .i64 1)) 3) 3,
     sop nb 53 (.move (.tmp 91)) 3]))))))) (
 .seq (
 .seq (
 .ops [sop nb 92 (.fieldAddr 24 (.tmp 1) 2) 0,
 sop nb 93 (.load 22 (.tmp 92)) 22,
 sop nb 94 (.call { callee := .builtin .len, args := #[(.tmp 93)], argTypes := #[22] }) 3,
 sop nb 95 (.move (.const (.int .i64 0))) 3]) (
 .block 5 (
  .loop (
   .seq (
   .ops [sop nb 96 (.binOp .lss 3 (.tmp 95) (.tmp 94) 3) 0]) (
   .seq (
   .cond (.tmp 96) (
    .skip) (
    .exit 5)) (
   .seq (
   .block 6 (
    .seq (
    .ops [sop nb 97 (.indexAddr 22 (.tmp 93) (.tmp 95)) 0,
      sop nb 98 (.load 115 (.tmp 97)) 115,
      sop nb 10 (.alloc 115) 0,
      ⟨none, (.store 115 (.tmp 10) (.tmp 98)), 0, none, none⟩]) (
    .ops [sop nb 99 (.move (.tmp 2)) 108,
      sop nb 100 (.nilCheck (.tmp 99)) 0,
      sop nb 101 (.fieldAddr 123 (.tmp 100) 2) 0,
      sop nb 102 (.load 121 (.tmp 101)) 121,
      sop nb 103 (.load 115 (.tmp 10)) 115,
      sop nb 104 (.move (.tmp 2)) 108,
      sop nb 105 (.nilCheck (.tmp 104)) 0,
      sop nb 106 (.fieldAddr 123 (.tmp 105) 2) 0,
      sop nb 107 (.load 121 (.tmp 106)) 121,
      sop nb 108 (.fieldAddr 115 (.tmp 10) 1) 0,
      sop nb 109 (.load 3 (.tmp 108)) 3,
      sop nb 110 (.fieldAddr 115 (.tmp 10) 0) 0,
      sop nb 111 (.load 3 (.tmp 110)) 3,
      sop nb 112 (.build 115 #[(0, (.tmp 109)), (1, (.tmp 111))]) 115,
      sop nb 113 (.mapEntry 121 (.tmp 102) (.tmp 103)) 0,
      sop nb 114 (.extract (.tmp 113) 1) 3,
      ⟨none, (.entryStore 121 (.tmp 102) (.tmp 114) (.const (.bool true))), 0, none, none⟩,
      sop nb 115 (.mapEntry 121 (.tmp 107) (.tmp 112)) 0,
      sop nb 116 (.extract (.tmp 115) 1) 3,
      ⟨none, (.entryStore 121 (.tmp 107) (.tmp 116) (.const (.bool true))), 0, none, none⟩]))) (
   .ops [sop nb 117 (.binOp .add 3 (.tmp 95) (.const (.int .i64 1)) 3) 3,
     sop nb 95 (.move (.tmp 117)) 3]))))))) (
 .seq (
 .ops [sop nb 118 (.move (.tmp 2)) 108,
 sop nb 2 (.assign (.tmp 118)) 108,
 sop nb 3 (.assign (.const (.int .i64 0))) 34]) (
 .ret)))))))))
@[go_sem] theorem rs82 : Go.Proofs.Try.f82.results.toList = [.tmp 2, .tmp 3] := by kernel_rfl
theorem en82 : Enters Q 82 := enters_of Go.Proofs.Try.func82 rfl (by kernel_rfl)
theorem k82 (nb : Nat) : sk nb Go.Proofs.Try.f82.ntmps (Go.Proofs.Try.f82.body.getD .skip) = some (c82 nb) := by kernel_rfl
/-- (*smalto/stencil.alphabet).areWords -/
noncomputable def c85 (nb : Nat) : SC :=
 .seq (
 .ops [sop nb 2 (.box 108 (.tmp 0)) 0,
 sop nb 4 (.assign (.const (.bool false))) 4]) (
 .seq (
 .ops [sop nb 5 (.move (.tmp 1)) 25,
 sop nb 6 (.makeFunc (.func 104) #[] #[(.tmp 2)]) 154,
 sop nb 7 (.call { callee := .value (.func 90), args := #[(.tmp 5), (.tmp 6)], argTypes := #[25, 154] }) 4,
 sop nb 8 (.unOp .not 4 (.tmp 7)) 4,
 sop nb 4 (.assign (.tmp 8)) 4]) (
 .ret))
@[go_sem] theorem rs85 : Go.Proofs.Try.f85.results.toList = [.tmp 4] := by kernel_rfl
theorem en85 : Enters Q 85 := enters_of Go.Proofs.Try.func85 rfl (by kernel_rfl)
theorem k85 (nb : Nat) : sk nb Go.Proofs.Try.f85.ntmps (Go.Proofs.Try.f85.body.getD .skip) = some (c85 nb) := by kernel_rfl
/-- (*smalto/stencil.alphabet).isWord -/
noncomputable def c86 (nb : Nat) : SC :=
 .seq (
 .ops [sop nb 3 (.box 108 (.tmp 0)) 0,
 sop nb 5 (.box 26 (.tmp 2)) 0,
 sop nb 6 (.assign (.const (.bool false))) 4]) (
 .seq (
 .ops [sop nb 7 (.move (.tmp 1)) 26,
 sop nb 8 (.call { callee := .builtin .len, args := #[(.tmp 7)], argTypes := #[26] }) 3,
 sop nb 9 (.buildSlice 26 1 #[(0, (.tmp 8))]) 26,
 sop nb 10 (.call { callee := .value (.func 87), args := #[(.const (.int .i64 1)), (.const (.int .i64 6)), (.tmp 9)], argTypes := #[3, 3, 26] }) 4,
 sop nb 11 (.move (.tmp 10)) 4,
   ⟨some 12, (.move (.tmp 1)), 26, some (11, true), some (nb + 12)⟩,
   ⟨some 13, (.makeFunc (.func 106) #[] #[(.tmp 3), (.tmp 5)]), 167, some (11, true), some (nb + 13)⟩,
   ⟨some 14, (.call { callee := .value (.func 105), args := #[(.tmp 12), (.tmp 13)], argTypes := #[26, 167] }), 4, some (11, true), some (nb + 14)⟩,
   ⟨some 15, (.unOp .not 4 (.tmp 14)), 4, some (11, true), some (nb + 15)⟩,
 sop nb 16 (.pick (.tmp 11) (.tmp 15) (.const (.bool false))) 4,
 sop nb 6 (.assign (.tmp 16)) 4]) (
 .ret))
@[go_sem] theorem rs86 : Go.Proofs.Try.f86.results.toList = [.tmp 6] := by kernel_rfl
theorem en86 : Enters Q 86 := enters_of Go.Proofs.Try.func86 rfl (by kernel_rfl)
theorem k86 (nb : Nat) : sk nb Go.Proofs.Try.f86.ntmps (Go.Proofs.Try.f86.body.getD .skip) = some (c86 nb) := by kernel_rfl
/-- smalto/stencil.within -/
noncomputable def c87 (nb : Nat) : SC :=
 .seq (
 .ops [sop nb 3 (.box 3 (.tmp 0)) 0,
 sop nb 4 (.box 3 (.tmp 1)) 0,
 sop nb 6 (.assign (.const (.bool false))) 4]) (
 .seq (
 .ops [sop nb 7 (.move (.tmp 2)) 26,
 sop nb 8 (.makeFunc (.func 108) #[] #[(.tmp 3), (.tmp 4)]) 167,
 sop nb 9 (.call { callee := .value (.func 105), args := #[(.tmp 7), (.tmp 8)], argTypes := #[26, 167] }) 4,
 sop nb 10 (.unOp .not 4 (.tmp 9)) 4,
 sop nb 6 (.assign (.tmp 10)) 4]) (
 .ret))
@[go_sem] theorem rs87 : Go.Proofs.Try.f87.results.toList = [.tmp 6] := by kernel_rfl
theorem en87 : Enters Q 87 := enters_of Go.Proofs.Try.func87 rfl (by kernel_rfl)
theorem k87 (nb : Nat) : sk nb Go.Proofs.Try.f87.ntmps (Go.Proofs.Try.f87.body.getD .skip) = some (c87 nb) := by kernel_rfl
/-- (smalto/stencil.meaning).stencils -/
noncomputable def c88 (nb : Nat) : SC :=
 .seq (
 .ops [sop nb 3 (.box 110 (.tmp 0)) 0,
 sop nb 6 (.assign (.const (.map none))) 151]) (
 .seq (
 .ops [sop nb 16 (.makeMap 151 none) 151,
 sop nb 7 (.assign (.tmp 16)) 151]) (
 .seq (
 .ops [sop nb 18 (.fieldAddr 110 (.tmp 3) 0) 0,
 sop nb 19 (.load 108 (.tmp 18)) 108,
 sop nb 20 (.move (.tmp 1)) 26,
 sop nb 21 (.fieldAddr 110 (.tmp 3) 2) 0,
 sop nb 22 (.load 26 (.tmp 21)) 26,
 sop nb 23 (.call { callee := .value (.func 81), args := #[(.tmp 19), (.tmp 20), (.tmp 22)], argTypes := #[108, 26, 26] }) 143,
 sop nb 17 (.move (.tmp 23)) 143,
 sop nb 24 (.extract (.tmp 17) 0) 82,
 sop nb 25 (.extract (.tmp 17) 1) 3,
 sop nb 26 (.extract (.tmp 17) 2) 4,
 sop nb 8 (.assign (.tmp 24)) 82,
 sop nb 9 (.assign (.tmp 25)) 3,
 sop nb 10 (.assign (.tmp 26)) 4]) (
 .seq (
 .ops [sop nb 28 (.fieldAddr 110 (.tmp 3) 0) 0,
 sop nb 29 (.load 108 (.tmp 28)) 108,
 sop nb 30 (.move (.tmp 1)) 26,
 sop nb 31 (.move (.tmp 2)) 3,
 sop nb 32 (.move (.tmp 2)) 3,
 sop nb 33 (.binOp .add 3 (.tmp 32) (.const (.int .i64 1)) 3) 3,
 sop nb 34 (.slice 26 (.tmp 30) (some (.tmp 31)) (some (.tmp 33)) none) 26,
 sop nb 35 (.fieldAddr 110 (.tmp 3) 2) 0,
 sop nb 36 (.load 26 (.tmp 35)) 26,
 sop nb 37 (.move (.tmp 2)) 3,
 sop nb 38 (.move (.tmp 2)) 3,
 sop nb 39 (.binOp .add 3 (.tmp 38) (.const (.int .i64 1)) 3) 3,
 sop nb 40 (.slice 26 (.tmp 36) (some (.tmp 37)) (some (.tmp 39)) none) 26,
 sop nb 41 (.call { callee := .value (.func 81), args := #[(.tmp 29), (.tmp 34), (.tmp 40)], argTypes := #[108, 26, 26] }) 143,
 sop nb 27 (.move (.tmp 41)) 143,
 sop nb 42 (.extract (.tmp 27) 0) 82,
 sop nb 43 (.extract (.tmp 27) 1) 3,
 sop nb 44 (.extract (.tmp 27) 2) 4,
 sop nb 11 (.assign (.tmp 42)) 82,
 sop nb 12 (.assign (.tmp 43)) 3,
 sop nb 13 (.assign (.tmp 44)) 4]) (
 .seq (
 .seq (
 .ops [sop nb 45 (.fieldAddr 110 (.tmp 3) 0) 0,
 sop nb 46 (.load 108 (.tmp 45)) 108,
 sop nb 47 (.move (.tmp 1)) 26,
 sop nb 48 (.move (.tmp 2)) 3,
 sop nb 49 (.indexAddr 26 (.tmp 47) (.tmp 48)) 0,
 sop nb 50 (.load 3 (.tmp 49)) 3,
 sop nb 51 (.fieldAddr 110 (.tmp 3) 2) 0,
 sop nb 52 (.load 26 (.tmp 51)) 26,
 sop nb 53 (.move (.tmp 2)) 3,
 sop nb 54 (.indexAddr 26 (.tmp 52) (.tmp 53)) 0,
 sop nb 55 (.load 3 (.tmp 54)) 3,
 sop nb 56 (.call { callee := .value (.func 79), args := #[(.tmp 46), (.tmp 50), (.tmp 55)], argTypes := #[108, 3, 3] }) 138,
 sop nb 57 (.call { callee := .builtin .len, args := #[(.tmp 56)], argTypes := #[138] }) 3,
 sop nb 58 (.move (.const (.int .i64 0))) 3]) (
 .block 0 (
  .loop (
   .seq (
   .ops [sop nb 59 (.binOp .lss 3 (.tmp 58) (.tmp 57) 3) 0]) (
   .seq (
   .cond (.tmp 59) (
    .skip) (
    .exit 0)) (
   .seq (
   .block 1 (
    .seq (
    .ops [sop nb 60 (.indexAddr 138 (.tmp 56) (.tmp 58)) 0,
      sop nb 61 (.load 141 (.tmp 60)) 141,
      sop nb 15 (.alloc 141) 0,
      ⟨none, (.store 141 (.tmp 15) (.tmp 61)), 0, none, none⟩]) (
    .seq (
    .opsD [sop nb 62 (.move (.tmp 9)) 3,
      sop nb 63 (.move (.tmp 12)) 3,
      sop nb 64 (.binOp .sub 3 (.tmp 62) (.tmp 63) 3) 3,
      sop nb 65 (.load 141 (.tmp 15)) 141,
      sop nb 66 (.call { callee := .value (.func 99), args := #[(.tmp 65)], argTypes := #[141] }) 3,
      sop nb 67 (.binOp .add 3 (.tmp 64) (.tmp 66) 3) 3,
      sop nb 68 (.fieldAddr 110 (.tmp 3) 3) 0,
      sop nb 69 (.load 3 (.tmp 68)) 3,
      sop nb 70 (.binOp .leq 3 (.tmp 67) (.tmp 69) 3) 4] [(4, 7)]) (
    .cond (.tmp 70) (
     .ops [sop nb 71 (.move (.tmp 7)) 151,
       sop nb 72 (.fieldAddr 141 (.tmp 15) 1) 0,
       sop nb 73 (.load 3 (.tmp 72)) 3,
       ⟨none, (.mapUpdate 151 (.tmp 71) (.tmp 73) (.const (.bool true))), 0, none, none⟩]) (
     .skip))))) (
   .ops [sop nb 74 (.binOp .add 3 (.tmp 58) (.const (.int .i64 1)) 3) 3,
     sop nb 58 (.move (.tmp 74)) 3]))))))) (
 .seq (
 .ops [sop nb 75 (.move (.tmp 7)) 151,
 sop nb 6 (.assign (.tmp 75)) 151]) (
 .ret))))))
@[go_sem] theorem rs88 : Go.Proofs.Try.f88.results.toList = [.tmp 6] := by kernel_rfl
theorem en88 : Enters Q 88 := enters_of Go.Proofs.Try.func88 rfl (by kernel_rfl)
theorem k88 (nb : Nat) : sk nb Go.Proofs.Try.f88.ntmps (Go.Proofs.Try.f88.body.getD .skip) = some (c88 nb) := by kernel_rfl
/-- (*smalto/stencil.alphabet).isCount -/
noncomputable def c89 (nb : Nat) : SC :=
 .seq (
 .ops [sop nb 6 (.assign (.const (.bool false))) 4]) (
 .seq (
 .ops [sop nb 7 (.move (.tmp 1)) 26,
 sop nb 8 (.call { callee := .builtin .len, args := #[(.tmp 7)], argTypes := #[26] }) 3,
 sop nb 9 (.move (.tmp 0)) 108,
 sop nb 10 (.nilCheck (.tmp 9)) 0,
 sop nb 11 (.fieldAddr 123 (.tmp 10) 0) 0,
 sop nb 12 (.fieldAddr 24 (.tmp 11) 0) 0,
 sop nb 13 (.load 3 (.tmp 12)) 3,
 sop nb 14 (.binOp .eql 3 (.tmp 8) (.tmp 13) 3) 4,
 sop nb 15 (.move (.tmp 14)) 4,
   ⟨some 16, (.move (.tmp 2)), 3, some (15, true), some (nb + 16)⟩,
   ⟨some 17, (.move (.tmp 1)), 26, some (15, true), some (nb + 17)⟩,
   ⟨some 18, (.call { callee := .value (.func 87), args := #[(.const (.int .i64 0)), (.tmp 16), (.tmp 17)], argTypes := #[3, 3, 26] }), 4, some (15, true), some (nb + 18)⟩,
 sop nb 19 (.pick (.tmp 15) (.tmp 18) (.const (.bool false))) 4,
 sop nb 6 (.assign (.tmp 19)) 4]) (
 .ret))
@[go_sem] theorem rs89 : Go.Proofs.Try.f89.results.toList = [.tmp 6] := by kernel_rfl
theorem en89 : Enters Q 89 := enters_of Go.Proofs.Try.func89 rfl (by kernel_rfl)
theorem k89 (nb : Nat) : sk nb Go.Proofs.Try.f89.ntmps (Go.Proofs.Try.f89.body.getD .skip) = some (c89 nb) := by kernel_rfl
/-- slices.ContainsFunc[[][]int,[]int] -/
noncomputable def c90 (nb : Nat) : SC :=
 .seq (
 .ops [sop nb 4 (.assign (.const (.bool false))) 4]) (
 .seq (
 .ops [sop nb 5 (.move (.tmp 0)) 25,
 sop nb 6 (.move (.tmp 1)) 154,
 sop nb 7 (.call { callee := .value (.func 109), args := #[(.tmp 5), (.tmp 6)], argTypes := #[25, 154] }) 3,
 sop nb 8 (.binOp .geq 3 (.tmp 7) (.const (.int .i64 0)) 3) 4,
 sop nb 4 (.assign (.tmp 8)) 4]) (
 .ret))
@[go_sem] theorem rs90 : Go.Proofs.Try.f90.results.toList = [.tmp 4] := by kernel_rfl
theorem en90 : Enters Q 90 := enters_of Go.Proofs.Try.func90 rfl (by kernel_rfl)
theorem k90 (nb : Nat) : sk nb Go.Proofs.Try.f90.ntmps (Go.Proofs.Try.f90.body.getD .skip) = some (c90 nb) := by kernel_rfl
/-- smalto/stencil.newHeap$1 -/
noncomputable def c91 (nb : Nat) : SC :=
 .seq (
 .ops [sop nb 3 (.assign (.const (.bool false))) 4]) (
 .seq (
 .ops [sop nb 4 (.load 108 (.tmp 1)) 108,
 sop nb 5 (.move (.tmp 0)) 26,
 sop nb 6 (.call { callee := .value (.func 89), args := #[(.tmp 4), (.tmp 5), (.const (.int .i64 5))], argTypes := #[108, 26, 3] }) 4,
 sop nb 7 (.unOp .not 4 (.tmp 6)) 4,
 sop nb 3 (.assign (.tmp 7)) 4]) (
 .ret))
@[go_sem] theorem rs91 : Go.Proofs.Try.f91.results.toList = [.tmp 3] := by kernel_rfl
theorem en91 : Enters Q 91 := enters_of Go.Proofs.Try.func91 rfl (by kernel_rfl)
theorem k91 (nb : Nat) : sk nb Go.Proofs.Try.f91.ntmps (Go.Proofs.Try.f91.body.getD .skip) = some (c91 nb) := by kernel_rfl
/-- slices.AppendSeq[[][]int,[]int] -/
noncomputable def c92 (nb : Nat) : SC :=
 .seq (
 .ops [sop nb 2 (.box 25 (.tmp 0)) 0,
 sop nb 4 (.assign (.const (.slice none 0 0))) 25]) (
 .seq (
 .seq (
 .ops [sop nb 6 (.move (.tmp 1)) 155]) (
 .block 0 (
  .rangeF (.tmp 6) [7] (
   .ops [sop nb 5 (.assign (.tmp 7)) 26]) (
   .block 1 (
    .ops [sop nb 8 (.load 25 (.tmp 2)) 25,
      sop nb 9 (.move (.tmp 5)) 26,
      sop nb 10 (.buildSlice 25 1 #[(0, (.tmp 9))]) 25,
      sop nb 11 (.call { callee := .builtin .append, args := #[(.tmp 8), (.tmp 10)], argTypes := #[25, 25] }) 25,
      ⟨none, (.store 25 (.tmp 2) (.tmp 11)), 0, none, none⟩]))))) (
 .seq (
 .ops [sop nb 12 (.load 25 (.tmp 2)) 25,
 sop nb 4 (.assign (.tmp 12)) 25]) (
 .ret)))
@[go_sem] theorem rs92 : Go.Proofs.Try.f92.results.toList = [.tmp 4] := by kernel_rfl
theorem en92 : Enters Q 92 := enters_of Go.Proofs.Try.func92 rfl (by kernel_rfl)
theorem k92 (nb : Nat) : sk nb Go.Proofs.Try.f92.ntmps (Go.Proofs.Try.f92.body.getD .skip) = some (c92 nb) := by kernel_rfl
/-- (smalto/stencil.heap).lists$1 -/
noncomputable def c93 (nb : Nat) : SC :=
 .seq (
 .ops [sop nb 9 (.assign (.const (.bool false))) 4]) (
 .seq (
 .seq (
 .ops [sop nb 14 (.move (.tmp 0)) 26,
 sop nb 15 (.call { callee := .builtin .len, args := #[(.tmp 14)], argTypes := #[26] }) 3,
 sop nb 16 (.binOp .gtr 3 (.tmp 15) (.const (.int .i64 0)) 3) 4,
 sop nb 17 (.move (.tmp 16)) 4,
   ⟨some 18, (.load 129 (.tmp 3)), 129, some (17, true), some (nb + 18)⟩,
   ⟨some 19, (.move (.tmp 1)), 26, some (17, true), some (nb + 19)⟩,
   ⟨some 20, (.call { callee := .value (.func 94), args := #[(.tmp 18), (.tmp 19)], argTypes := #[129, 26] }), 4, some (17, true), some (nb + 20)⟩,
 sop nb 21 (.pick (.tmp 17) (.tmp 20) (.const (.bool false))) 4,
 sop nb 22 (.move (.tmp 21)) 4,
   ⟨some 23, (.load 154 (.tmp 4)), 154, some (22, true), some (nb + 23)⟩,
   ⟨some 24, (.move (.tmp 0)), 26, some (22, true), some (nb + 24)⟩,
   ⟨some 25, (.call { callee := .value (.tmp 23), args := #[(.tmp 24)], argTypes := #[26] }), 4, some (22, true), some (nb + 25)⟩,
   ⟨some 26, (.unOp .not 4 (.tmp 25)), 4, some (22, true), some (nb + 26)⟩,
 sop nb 27 (.pick (.tmp 22) (.tmp 26) (.const (.bool false))) 4]) (
 .cond (.tmp 27) (
  .seq (
  .ops [sop nb 9 (.assign (.const (.bool false))) 4]) (
  .ret)) (
  .skip))) (
 .seq (
 .seq (
 .ops [sop nb 28 (.move (.tmp 2)) 3,
 sop nb 10 (.assign (.tmp 28)) 3]) (
 .block 0 (
  .loop (
   .seq (
   .seq (
   .ops [sop nb 29 (.move (.tmp 10)) 3,
     sop nb 30 (.fieldAddr 129 (.tmp 3) 1) 0,
     sop nb 31 (.load 25 (.tmp 30)) 25,
     sop nb 32 (.call { callee := .builtin .len, args := #[(.tmp 31)], argTypes := #[25] }) 3,
     sop nb 33 (.binOp .lss 3 (.tmp 29) (.tmp 32) 3) 4]) (
   .cond (.tmp 33) (
    .skip) (
    .exit 0))) (
   .seq (
   .block 1 (
    .seq (
    .ops [sop nb 36 (.move (.tmp 1)) 26,
      sop nb 37 (.call { callee := .value (.func 66), args := #[(.tmp 36)], argTypes := #[26] }) 26,
      sop nb 11 (.assign (.tmp 37)) 26]) (
    .seq (
    .seq (
    .ops [sop nb 38 (.fieldAddr 129 (.tmp 3) 1) 0,
      sop nb 39 (.load 25 (.tmp 38)) 25,
      sop nb 40 (.move (.tmp 10)) 3,
      sop nb 41 (.indexAddr 25 (.tmp 39) (.tmp 40)) 0,
      sop nb 42 (.load 26 (.tmp 41)) 26,
      sop nb 43 (.call { callee := .builtin .len, args := #[(.tmp 42)], argTypes := #[26] }) 3,
      sop nb 44 (.move (.const (.int .i64 0))) 3]) (
    .block 2 (
     .loop (
      .seq (
      .ops [sop nb 45 (.binOp .lss 3 (.tmp 44) (.tmp 43) 3) 0]) (
      .seq (
      .cond (.tmp 45) (
       .skip) (
       .exit 2)) (
      .seq (
      .block 3 (
       .seq (
       .ops [sop nb 46 (.move (.tmp 44)) 3,
         sop nb 47 (.indexAddr 26 (.tmp 42) (.tmp 44)) 0,
         sop nb 48 (.load 3 (.tmp 47)) 3,
         sop nb 12 (.assign (.tmp 46)) 3,
         sop nb 13 (.assign (.tmp 48)) 3]) (
       .ops [sop nb 49 (.move (.tmp 11)) 26,
         sop nb 50 (.move (.tmp 12)) 3,
         sop nb 51 (.indexAddr 26 (.tmp 49) (.tmp 50)) 0,
         sop nb 52 (.load 3 (.tmp 51)) 3,
         sop nb 53 (.move (.tmp 13)) 3,
         sop nb 54 (.binOp .add 3 (.tmp 52) (.tmp 53) 3) 3,
         sop nb 55 (.indexAddr 26 (.tmp 49) (.tmp 50)) 0,
         ⟨none, (.store 3 (.tmp 55) (.tmp 54)), 0, none, none⟩]))) (
      .ops [sop nb 56 (.binOp .add 3 (.tmp 44) (.const (.int .i64 1)) 3) 3,
        sop nb 44 (.move (.tmp 56)) 3]))))))) (
    .seq (
    .opsD [sop nb 57 (.load 157 (.tmp 5)) 157,
      sop nb 58 (.move (.tmp 0)) 26,
      sop nb 59 (.call { callee := .value (.func 95), args := #[(.tmp 58)], argTypes := #[26] }) 26,
      sop nb 60 (.move (.tmp 10)) 3,
      sop nb 61 (.buildSlice 26 1 #[(0, (.tmp 60))]) 26,
      sop nb 62 (.call { callee := .builtin .append, args := #[(.tmp 59), (.tmp 61)], argTypes := #[26, 26] }) 26,
      sop nb 63 (.move (.tmp 11)) 26,
      sop nb 64 (.move (.tmp 10)) 3,
      sop nb 65 (.binOp .add 3 (.tmp 64) (.const (.int .i64 1)) 3) 3,
      sop nb 66 (.call { callee := .value (.tmp 57), args := #[(.tmp 62), (.tmp 63), (.tmp 65)], argTypes := #[26, 26, 3] }) 4,
      sop nb 67 (.unOp .not 4 (.tmp 66)) 4] [(0, 2), (0, 4), (2, 4), (0, 5)]) (
    .cond (.tmp 67) (
     .seq (
     .ops [sop nb 9 (.assign (.const (.bool false))) 4]) (
     .ret)) (
     .skip)))))) (
   .ops [sop nb 34 (.move (.tmp 10)) 3,
     sop nb 35 (.binOp .add 3 (.tmp 34) (.const (.int .i64 1)) 3) 3,
     sop nb 10 (.assign (.tmp 35)) 3])))))) (
 .seq (
 .ops [sop nb 9 (.assign (.const (.bool true))) 4]) (
 .ret))))
@[go_sem] theorem rs93 : Go.Proofs.Try.f93.results.toList = [.tmp 9] := by kernel_rfl
theorem en93 : Enters Q 93 := enters_of Go.Proofs.Try.func93 rfl (by kernel_rfl)
theorem k93 (nb : Nat) : sk nb Go.Proofs.Try.f93.ntmps (Go.Proofs.Try.f93.body.getD .skip) = some (c93 nb) := by kernel_rfl
/-- (smalto/stencil.heap).isOf -/
noncomputable def c94 (nb : Nat) : SC :=
 .seq (
 .ops [sop nb 2 (.box 129 (.tmp 0)) 0,
 sop nb 4 (.assign (.const (.bool false))) 4]) (
 .seq (
 .ops [sop nb 5 (.assign (.const (.int .i64 0))) 3]) (
 .seq (
 .seq (
 .ops [sop nb 8 (.fieldAddr 129 (.tmp 2) 2) 0,
 sop nb 9 (.load 26 (.tmp 8)) 26,
 sop nb 10 (.call { callee := .builtin .len, args := #[(.tmp 9)], argTypes := #[26] }) 3,
 sop nb 11 (.move (.const (.int .i64 0))) 3]) (
 .block 0 (
  .loop (
   .seq (
   .ops [sop nb 12 (.binOp .lss 3 (.tmp 11) (.tmp 10) 3) 0]) (
   .seq (
   .cond (.tmp 12) (
    .skip) (
    .exit 0)) (
   .seq (
   .block 1 (
    .seq (
    .ops [sop nb 13 (.move (.tmp 11)) 3,
      sop nb 14 (.indexAddr 26 (.tmp 9) (.tmp 11)) 0,
      sop nb 15 (.load 3 (.tmp 14)) 3,
      sop nb 6 (.assign (.tmp 13)) 3,
      sop nb 7 (.assign (.tmp 15)) 3]) (
    .seq (
    .seq (
    .ops [sop nb 16 (.move (.tmp 1)) 26,
      sop nb 17 (.move (.tmp 6)) 3,
      sop nb 18 (.indexAddr 26 (.tmp 16) (.tmp 17)) 0,
      sop nb 19 (.load 3 (.tmp 18)) 3,
      sop nb 20 (.move (.tmp 7)) 3,
      sop nb 21 (.binOp .lss 3 (.tmp 19) (.tmp 20) 3) 4]) (
    .cond (.tmp 21) (
     .seq (
     .ops [sop nb 4 (.assign (.const (.bool false))) 4]) (
     .ret)) (
     .skip))) (
    .ops [sop nb 22 (.move (.tmp 5)) 3,
      sop nb 23 (.move (.tmp 1)) 26,
      sop nb 24 (.move (.tmp 6)) 3,
      sop nb 25 (.indexAddr 26 (.tmp 23) (.tmp 24)) 0,
      sop nb 26 (.load 3 (.tmp 25)) 3,
      sop nb 27 (.move (.tmp 7)) 3,
      sop nb 28 (.binOp .sub 3 (.tmp 26) (.tmp 27) 3) 3,
      sop nb 29 (.binOp .add 3 (.tmp 22) (.tmp 28) 3) 3,
      sop nb 5 (.assign (.tmp 29)) 3])))) (
   .ops [sop nb 30 (.binOp .add 3 (.tmp 11) (.const (.int .i64 1)) 3) 3,
     sop nb 11 (.move (.tmp 30)) 3]))))))) (
 .seq (
 .ops [sop nb 31 (.move (.tmp 5)) 3,
 sop nb 32 (.fieldAddr 129 (.tmp 2) 3) 0,
 sop nb 33 (.load 3 (.tmp 32)) 3,
 sop nb 34 (.binOp .leq 3 (.tmp 31) (.tmp 33) 3) 4,
 sop nb 4 (.assign (.tmp 34)) 4]) (
 .ret))))
@[go_sem] theorem rs94 : Go.Proofs.Try.f94.results.toList = [.tmp 4] := by kernel_rfl
theorem en94 : Enters Q 94 := enters_of Go.Proofs.Try.func94 rfl (by kernel_rfl)
theorem k94 (nb : Nat) : sk nb Go.Proofs.Try.f94.ntmps (Go.Proofs.Try.f94.body.getD .skip) = some (c94 nb) := by kernel_rfl
/-- slices.Clip[[]int,int] -/
noncomputable def c95 (nb : Nat) : SC :=
 .seq (
 .ops [sop nb 2 (.assign (.const (.slice none 0 0))) 26]) (
 .seq (
 .ops [sop nb 3 (.move (.tmp 0)) 26,
 sop nb 4 (.move (.tmp 0)) 26,
 sop nb 5 (.call { callee := .builtin .len, args := #[(.tmp 4)], argTypes := #[26] }) 3,
 sop nb 6 (.move (.tmp 0)) 26,
 sop nb 7 (.call { callee := .builtin .len, args := #[(.tmp 6)], argTypes := #[26] }) 3,
 sop nb 8 (.slice 26 (.tmp 3) none (some (.tmp 5)) (some (.tmp 7))) 26,
 sop nb 2 (.assign (.tmp 8)) 26]) (
 .ret))
@[go_sem] theorem rs95 : Go.Proofs.Try.f95.results.toList = [.tmp 2] := by kernel_rfl
theorem en95 : Enters Q 95 := enters_of Go.Proofs.Try.func95 rfl (by kernel_rfl)
theorem k95 (nb : Nat) : sk nb Go.Proofs.Try.f95.ntmps (Go.Proofs.Try.f95.body.getD .skip) = some (c95 nb) := by kernel_rfl
/-- (*smalto/stencil.alphabet).read -/
noncomputable def c96 (nb : Nat) : SC :=
 .seq (
 .ops [sop nb 2 (.box 108 (.tmp 0)) 0,
 sop nb 3 (.box 3 (.tmp 1)) 0,
 sop nb 4 (.assign (.const .nilFunc)) 158]) (
 .seq (
 .ops [sop nb 5 (.makeFunc (.func 110) #[] #[(.tmp 3), (.tmp 2)]) 158,
 sop nb 4 (.assign (.tmp 5)) 158]) (
 .ret))
@[go_sem] theorem rs96 : Go.Proofs.Try.f96.results.toList = [.tmp 4] := by kernel_rfl
theorem en96 : Enters Q 96 := enters_of Go.Proofs.Try.func96 rfl (by kernel_rfl)
theorem k96 (nb : Nat) : sk nb Go.Proofs.Try.f96.ntmps (Go.Proofs.Try.f96.body.getD .skip) = some (c96 nb) := by kernel_rfl
/-- slices.MinFunc[[]smalto/stencil.laid,smalto/stencil.laid] -/
noncomputable def c97 (nb : Nat) : SC :=
 .seq (
 .ops [sop nb 4 (.alloc 141) 0]) (
 .seq (
 .seq (
 .ops [sop nb 7 (.move (.tmp 0)) 138,
 sop nb 8 (.call { callee := .builtin .len, args := #[(.tmp 7)], argTypes := #[138] }) 3,
 sop nb 9 (.binOp .lss 3 (.tmp 8) (.const (.int .i64 1)) 3) 4]) (
 .cond (.tmp 9) (
  .ops [sop nb 10 (.makeInterface 9 (.const (.string { data := #[115, 108, 105, 99, 101, 115, 46, 77, 105, 110, 70, 117, 110, 99, 58, 32, 101, 109, 112, 116, 121, 32, 108, 105, 115, 116] }))) 20,
    ⟨none, (.panic (.tmp 10)), 0, none, none⟩]) (
  .skip))) (
 .seq (
 .ops [sop nb 11 (.move (.tmp 0)) 138,
 sop nb 12 (.indexAddr 138 (.tmp 11) (.const (.int .i64 0))) 0,
 sop nb 13 (.load 141 (.tmp 12)) 141,
 sop nb 5 (.alloc 141) 0,
   ⟨none, (.store 141 (.tmp 5) (.tmp 13)), 0, none, none⟩]) (
 .seq (
 .seq (
 .ops [sop nb 6 (.assign (.const (.int .i64 1))) 3]) (
 .block 0 (
  .loop (
   .seq (
   .seq (
   .ops [sop nb 14 (.move (.tmp 6)) 3,
     sop nb 15 (.move (.tmp 0)) 138,
     sop nb 16 (.call { callee := .builtin .len, args := #[(.tmp 15)], argTypes := #[138] }) 3,
     sop nb 17 (.binOp .lss 3 (.tmp 14) (.tmp 16) 3) 4]) (
   .cond (.tmp 17) (
    .skip) (
    .exit 0))) (
   .seq (
   .block 1 (
    .seq (
    .ops [sop nb 20 (.move (.tmp 1)) 162,
      sop nb 21 (.move (.tmp 0)) 138,
      sop nb 22 (.move (.tmp 6)) 3,
      sop nb 23 (.indexAddr 138 (.tmp 21) (.tmp 22)) 0,
      sop nb 24 (.load 141 (.tmp 23)) 141,
      sop nb 25 (.load 141 (.tmp 5)) 141,
      sop nb 26 (.call { callee := .value (.tmp 20), args := #[(.tmp 24), (.tmp 25)], argTypes := #[141, 141] }) 3,
      sop nb 27 (.binOp .lss 3 (.tmp 26) (.const (.int .i64 0)) 3) 4]) (
    .cond (.tmp 27) (
     .ops [sop nb 28 (.move (.tmp 0)) 138,
       sop nb 29 (.move (.tmp 6)) 3,
       sop nb 30 (.indexAddr 138 (.tmp 28) (.tmp 29)) 0,
       sop nb 31 (.load 141 (.tmp 30)) 141,
       ⟨none, (.store 141 (.tmp 5) (.tmp 31)), 0, none, none⟩]) (
     .skip)))) (
   .ops [sop nb 18 (.move (.tmp 6)) 3,
     sop nb 19 (.binOp .add 3 (.tmp 18) (.const (.int .i64 1)) 3) 3,
     sop nb 6 (.assign (.tmp 19)) 3])))))) (
 .seq (
 .ops [sop nb 32 (.load 141 (.tmp 5)) 141,
   ⟨none, (.store 141 (.tmp 4) (.tmp 32)), 0, none, none⟩]) (
 .ret)))))
@[go_sem] theorem rs97 : Go.Proofs.Try.f97.results.toList = [.cell 4 141] := by kernel_rfl
theorem en97 : Enters Q 97 := enters_of Go.Proofs.Try.func97 rfl (by kernel_rfl)
theorem k97 (nb : Nat) : sk nb Go.Proofs.Try.f97.ntmps (Go.Proofs.Try.f97.body.getD .skip) = some (c97 nb) := by kernel_rfl
/-- (*smalto/stencil.alphabet).fewest$1 -/
noncomputable def c98 (nb : Nat) : SC :=
 .seq (
 .ops [sop nb 2 (.box 141 (.tmp 0)) 0,
 sop nb 3 (.box 141 (.tmp 1)) 0,
 sop nb 4 (.assign (.const (.int .i64 0))) 3]) (
 .seq (
 .opsD [sop nb 5 (.load 141 (.tmp 2)) 141,
 sop nb 6 (.call { callee := .value (.func 99), args := #[(.tmp 5)], argTypes := #[141] }) 3,
 sop nb 7 (.load 141 (.tmp 3)) 141,
 sop nb 8 (.call { callee := .value (.func 99), args := #[(.tmp 7)], argTypes := #[141] }) 3,
 sop nb 9 (.binOp .sub 3 (.tmp 6) (.tmp 8) 3) 3,
 sop nb 4 (.assign (.tmp 9)) 3] [(1, 2)]) (
 .ret))
@[go_sem] theorem rs98 : Go.Proofs.Try.f98.results.toList = [.tmp 4] := by kernel_rfl
theorem en98 : Enters Q 98 := enters_of Go.Proofs.Try.func98 rfl (by kernel_rfl)
theorem k98 (nb : Nat) : sk nb Go.Proofs.Try.f98.ntmps (Go.Proofs.Try.f98.body.getD .skip) = some (c98 nb) := by kernel_rfl
/-- (smalto/stencil.laid).faults -/
noncomputable def c99 (nb : Nat) : SC :=
 .seq (
 .ops [sop nb 1 (.box 141 (.tmp 0)) 0,
 sop nb 2 (.assign (.const (.int .i64 0))) 3]) (
 .seq (
 .seq (
 .ops [sop nb 3 (.fieldAddr 141 (.tmp 1) 0) 0,
 sop nb 4 (.load 76 (.tmp 3)) 76]) (
 .block 0 (
  .seq (
  .ops [sop nb 6 (.binOp .eql 76 (.tmp 4) (.const (.int .i64 0)) 76) 4,
    sop nb 5 (.assign (.tmp 6)) 4]) (
  .cond (.tmp 5) (
   .seq (
   .ops [sop nb 2 (.assign (.const (.int .i64 0))) 3]) (
   .ret)) (
   .seq (
   .ops [sop nb 8 (.binOp .eql 76 (.tmp 4) (.const (.int .i64 3)) 76) 4,
     sop nb 7 (.assign (.tmp 8)) 4]) (
   .cond (.tmp 7) (
    .seq (
    .ops [sop nb 2 (.assign (.const (.int .i64 2))) 3]) (
    .ret)) (
    .skip))))))) (
 .seq (
 .ops [sop nb 2 (.assign (.const (.int .i64 1))) 3]) (
 .ret)))
@[go_sem] theorem rs99 : Go.Proofs.Try.f99.results.toList = [.tmp 2] := by kernel_rfl
theorem en99 : Enters Q 99 := enters_of Go.Proofs.Try.func99 rfl (by kernel_rfl)
theorem k99 (nb : Nat) : sk nb Go.Proofs.Try.f99.ntmps (Go.Proofs.Try.f99.body.getD .skip) = some (c99 nb) := by kernel_rfl
/-- smalto/stencil.newAlphabet$1 -/
noncomputable def c100 (nb : Nat) : SC :=
 .seq (
 .ops [sop nb 2 (.box 115 (.tmp 0)) 0,
 sop nb 3 (.assign (.const (.bool false))) 4]) (
 .seq (
 .ops [sop nb 4 (.fieldAddr 24 (.tmp 1) 0) 0,
 sop nb 5 (.load 3 (.tmp 4)) 3,
 sop nb 6 (.binOp .sub 3 (.tmp 5) (.const (.int .i64 1)) 3) 3,
 sop nb 7 (.fieldAddr 115 (.tmp 2) 0) 0,
 sop nb 8 (.load 3 (.tmp 7)) 3,
 sop nb 9 (.fieldAddr 115 (.tmp 2) 1) 0,
 sop nb 10 (.load 3 (.tmp 9)) 3,
 sop nb 11 (.buildSlice 26 2 #[(0, (.tmp 8)), (1, (.tmp 10))]) 26,
 sop nb 12 (.call { callee := .value (.func 87), args := #[(.const (.int .i64 0)), (.tmp 6), (.tmp 11)], argTypes := #[3, 3, 26] }) 4,
 sop nb 13 (.unOp .not 4 (.tmp 12)) 4,
 sop nb 3 (.assign (.tmp 13)) 4]) (
 .ret))
@[go_sem] theorem rs100 : Go.Proofs.Try.f100.results.toList = [.tmp 3] := by kernel_rfl
theorem en100 : Enters Q 100 := enters_of Go.Proofs.Try.func100 rfl (by kernel_rfl)
theorem k100 (nb : Nat) : sk nb Go.Proofs.Try.f100.ntmps (Go.Proofs.Try.f100.body.getD .skip) = some (c100 nb) := by kernel_rfl
/-- smalto/stencil.newAlphabet$2 -/
noncomputable def c101 (nb : Nat) : SC :=
 .seq (
 .ops [sop nb 2 (.box 115 (.tmp 0)) 0,
 sop nb 3 (.assign (.const (.bool false))) 4]) (
 .seq (
 .ops [sop nb 4 (.load 163 (.tmp 1)) 163,
 sop nb 5 (.load 115 (.tmp 2)) 115,
 sop nb 6 (.call { callee := .value (.tmp 4), args := #[(.tmp 5)], argTypes := #[115] }) 4,
 sop nb 7 (.move (.tmp 6)) 4,
   ⟨some 8, (.fieldAddr 115 (.tmp 2) 0), 0, some (7, false), some (nb + 8)⟩,
   ⟨some 9, (.load 3 (.tmp 8)), 3, some (7, false), some (nb + 9)⟩,
   ⟨some 10, (.fieldAddr 115 (.tmp 2) 1), 0, some (7, false), some (nb + 10)⟩,
   ⟨some 11, (.load 3 (.tmp 10)), 3, some (7, false), some (nb + 11)⟩,
   ⟨some 12, (.binOp .eql 3 (.tmp 9) (.tmp 11) 3), 4, some (7, false), some (nb + 12)⟩,
 sop nb 13 (.pick (.tmp 7) (.const (.bool true)) (.tmp 12)) 4,
 sop nb 3 (.assign (.tmp 13)) 4]) (
 .ret))
@[go_sem] theorem rs101 : Go.Proofs.Try.f101.results.toList = [.tmp 3] := by kernel_rfl
theorem en101 : Enters Q 101 := enters_of Go.Proofs.Try.func101 rfl (by kernel_rfl)
theorem k101 (nb : Nat) : sk nb Go.Proofs.Try.f101.ntmps (Go.Proofs.Try.f101.body.getD .skip) = some (c101 nb) := by kernel_rfl
/-- slices.ContainsFunc[[]smalto/api.StencilPair,smalto/api.StencilPair] -/
noncomputable def c102 (nb : Nat) : SC :=
 .seq (
 .ops [sop nb 4 (.assign (.const (.bool false))) 4]) (
 .seq (
 .ops [sop nb 5 (.move (.tmp 0)) 22,
 sop nb 6 (.move (.tmp 1)) 163,
 sop nb 7 (.call { callee := .value (.func 111), args := #[(.tmp 5), (.tmp 6)], argTypes := #[22, 163] }) 3,
 sop nb 8 (.binOp .geq 3 (.tmp 7) (.const (.int .i64 0)) 3) 4,
 sop nb 4 (.assign (.tmp 8)) 4]) (
 .ret))
@[go_sem] theorem rs102 : Go.Proofs.Try.f102.results.toList = [.tmp 4] := by kernel_rfl
theorem en102 : Enters Q 102 := enters_of Go.Proofs.Try.func102 rfl (by kernel_rfl)
theorem k102 (nb : Nat) : sk nb Go.Proofs.Try.f102.ntmps (Go.Proofs.Try.f102.body.getD .skip) = some (c102 nb) := by kernel_rfl
/-- (*smalto/stencil.alphabet).areWords$1 -/
noncomputable def c104 (nb : Nat) : SC :=
 .seq (
 .ops [sop nb 3 (.assign (.const (.bool false))) 4]) (
 .seq (
 .ops [sop nb 4 (.load 108 (.tmp 1)) 108,
 sop nb 5 (.move (.tmp 0)) 26,
 sop nb 6 (.call { callee := .value (.func 86), args := #[(.tmp 4), (.tmp 5), (.const (.slice none 0 0))], argTypes := #[108, 26, 26] }) 4,
 sop nb 7 (.unOp .not 4 (.tmp 6)) 4,
 sop nb 3 (.assign (.tmp 7)) 4]) (
 .ret))
@[go_sem] theorem rs104 : Go.Proofs.Try.f104.results.toList = [.tmp 3] := by kernel_rfl
theorem en104 : Enters Q 104 := enters_of Go.Proofs.Try.func104 rfl (by kernel_rfl)
theorem k104 (nb : Nat) : sk nb Go.Proofs.Try.f104.ntmps (Go.Proofs.Try.f104.body.getD .skip) = some (c104 nb) := by kernel_rfl
/-- slices.ContainsFunc[[]int,int] -/
noncomputable def c105 (nb : Nat) : SC :=
 .seq (
 .ops [sop nb 4 (.assign (.const (.bool false))) 4]) (
 .seq (
 .ops [sop nb 5 (.move (.tmp 0)) 26,
 sop nb 6 (.move (.tmp 1)) 167,
 sop nb 7 (.call { callee := .value (.func 112), args := #[(.tmp 5), (.tmp 6)], argTypes := #[26, 167] }) 3,
 sop nb 8 (.binOp .geq 3 (.tmp 7) (.const (.int .i64 0)) 3) 4,
 sop nb 4 (.assign (.tmp 8)) 4]) (
 .ret))
@[go_sem] theorem rs105 : Go.Proofs.Try.f105.results.toList = [.tmp 4] := by kernel_rfl
theorem en105 : Enters Q 105 := enters_of Go.Proofs.Try.func105 rfl (by kernel_rfl)
theorem k105 (nb : Nat) : sk nb Go.Proofs.Try.f105.ntmps (Go.Proofs.Try.f105.body.getD .skip) = some (c105 nb) := by kernel_rfl
/-- (*smalto/stencil.alphabet).isWord$1 -/
noncomputable def c106 (nb : Nat) : SC :=
 .seq (
 .ops [sop nb 4 (.assign (.const (.bool false))) 4]) (
 .seq (
 .ops [sop nb 5 (.load 108 (.tmp 1)) 108,
 sop nb 6 (.nilCheck (.tmp 5)) 0,
 sop nb 7 (.fieldAddr 123 (.tmp 6) 0) 0,
 sop nb 8 (.fieldAddr 24 (.tmp 7) 0) 0,
 sop nb 9 (.load 3 (.tmp 8)) 3,
 sop nb 10 (.binOp .sub 3 (.tmp 9) (.const (.int .i64 1)) 3) 3,
 sop nb 11 (.move (.tmp 0)) 3,
 sop nb 12 (.buildSlice 26 1 #[(0, (.tmp 11))]) 26,
 sop nb 13 (.call { callee := .value (.func 87), args := #[(.const (.int .i64 0)), (.tmp 10), (.tmp 12)], argTypes := #[3, 3, 26] }) 4,
 sop nb 14 (.unOp .not 4 (.tmp 13)) 4,
 sop nb 15 (.move (.tmp 14)) 4,
   ⟨some 16, (.load 26 (.tmp 2)), 26, some (15, true), some (nb + 16)⟩,
   ⟨some 17, (.move (.tmp 0)), 3, some (15, true), some (nb + 17)⟩,
   ⟨some 18, (.call { callee := .value (.func 107), args := #[(.tmp 16), (.tmp 17)], argTypes := #[26, 3] }), 4, some (15, true), some (nb + 18)⟩,
   ⟨some 19, (.unOp .not 4 (.tmp 18)), 4, some (15, true), some (nb + 19)⟩,
 sop nb 20 (.pick (.tmp 15) (.tmp 19) (.const (.bool false))) 4,
 sop nb 4 (.assign (.tmp 20)) 4]) (
 .ret))
@[go_sem] theorem rs106 : Go.Proofs.Try.f106.results.toList = [.tmp 4] := by kernel_rfl
theorem en106 : Enters Q 106 := enters_of Go.Proofs.Try.func106 rfl (by kernel_rfl)
theorem k106 (nb : Nat) : sk nb Go.Proofs.Try.f106.ntmps (Go.Proofs.Try.f106.body.getD .skip) = some (c106 nb) := by kernel_rfl
/-- slices.Contains[[]int,int] -/
noncomputable def c107 (nb : Nat) : SC :=
 .seq (
 .ops [sop nb 4 (.assign (.const (.bool false))) 4]) (
 .seq (
 .ops [sop nb 5 (.move (.tmp 0)) 26,
 sop nb 6 (.move (.tmp 1)) 3,
 sop nb 7 (.call { callee := .value (.func 113), args := #[(.tmp 5), (.tmp 6)], argTypes := #[26, 3] }) 3,
 sop nb 8 (.binOp .geq 3 (.tmp 7) (.const (.int .i64 0)) 3) 4,
 sop nb 4 (.assign (.tmp 8)) 4]) (
 .ret))
@[go_sem] theorem rs107 : Go.Proofs.Try.f107.results.toList = [.tmp 4] := by kernel_rfl
theorem en107 : Enters Q 107 := enters_of Go.Proofs.Try.func107 rfl (by kernel_rfl)
theorem k107 (nb : Nat) : sk nb Go.Proofs.Try.f107.ntmps (Go.Proofs.Try.f107.body.getD .skip) = some (c107 nb) := by kernel_rfl
/-- smalto/stencil.within$1 -/
noncomputable def c108 (nb : Nat) : SC :=
 .seq (
 .ops [sop nb 4 (.assign (.const (.bool false))) 4]) (
 .seq (
 .ops [sop nb 5 (.move (.tmp 0)) 3,
 sop nb 6 (.load 3 (.tmp 1)) 3,
 sop nb 7 (.binOp .lss 3 (.tmp 5) (.tmp 6) 3) 4,
 sop nb 8 (.move (.tmp 7)) 4,
   ⟨some 9, (.move (.tmp 0)), 3, some (8, false), some (nb + 9)⟩,
   ⟨some 10, (.load 3 (.tmp 2)), 3, some (8, false), some (nb + 10)⟩,
   ⟨some 11, (.binOp .gtr 3 (.tmp 9) (.tmp 10) 3), 4, some (8, false), some (nb + 11)⟩,
 sop nb 12 (.pick (.tmp 8) (.const (.bool true)) (.tmp 11)) 4,
 sop nb 4 (.assign (.tmp 12)) 4]) (
 .ret))
@[go_sem] theorem rs108 : Go.Proofs.Try.f108.results.toList = [.tmp 4] := by kernel_rfl
theorem en108 : Enters Q 108 := enters_of Go.Proofs.Try.func108 rfl (by kernel_rfl)
theorem k108 (nb : Nat) : sk nb Go.Proofs.Try.f108.ntmps (Go.Proofs.Try.f108.body.getD .skip) = some (c108 nb) := by kernel_rfl
/-- slices.IndexFunc[[][]int,[]int] -/
noncomputable def c109 (nb : Nat) : SC :=
 .seq (
 .ops [sop nb 4 (.assign (.const (.int .i64 0))) 3]) (
 .seq (
 .seq (
 .ops [sop nb 6 (.move (.tmp 0)) 25,
 sop nb 7 (.call { callee := .builtin .len, args := #[(.tmp 6)], argTypes := #[25] }) 3,
 sop nb 8 (.move (.const (.int .i64 0))) 3]) (
 .block 0 (
  .loop (
   .seq (
   .ops [sop nb 9 (.binOp .lss 3 (.tmp 8) (.tmp 7) 3) 0]) (
   .seq (
   .cond (.tmp 9) (
    .skip) (
    .exit 0)) (
   .seq (
   .block 1 (
    .seq (
    .ops [sop nb 10 (.move (.tmp 8)) 3,
      sop nb 5 (.assign (.tmp 10)) 3]) (
    .seq (
    .ops [sop nb 11 (.move (.tmp 1)) 154,
      sop nb 12 (.move (.tmp 0)) 25,
      sop nb 13 (.move (.tmp 5)) 3,
      sop nb 14 (.indexAddr 25 (.tmp 12) (.tmp 13)) 0,
      sop nb 15 (.load 26 (.tmp 14)) 26,
      sop nb 16 (.call { callee := .value (.tmp 11), args := #[(.tmp 15)], argTypes := #[26] }) 4]) (
    .cond (.tmp 16) (
     .seq (
     .ops [sop nb 17 (.move (.tmp 5)) 3,
       sop nb 4 (.assign (.tmp 17)) 3]) (
     .ret)) (
     .skip))))) (
   .ops [sop nb 18 (.binOp .add 3 (.tmp 8) (.const (.int .i64 1)) 3) 3,
     sop nb 8 (.move (.tmp 18)) 3]))))))) (
 .seq (
 .ops [sop nb 4 (.assign (.const (.int .i64 (-1)))) 3]) (
 .ret)))
@[go_sem] theorem rs109 : Go.Proofs.Try.f109.results.toList = [.tmp 4] := by kernel_rfl
theorem en109 : Enters Q 109 := enters_of Go.Proofs.Try.func109 rfl (by kernel_rfl)
theorem k109 (nb : Nat) : sk nb Go.Proofs.Try.f109.ntmps (Go.Proofs.Try.f109.body.getD .skip) = some (c109 nb) := by kernel_rfl
/-- (*smalto/stencil.alphabet).read$1 -/
noncomputable def c110 (nb : Nat) : SC :=
 .seq (
 .seq (
 .ops [sop nb 8 (.move (.tmp 0)) 169,
 sop nb 9 (.load 3 (.tmp 1)) 3,
 sop nb 10 (.build 141 #[(0, (.const (.int .i64 0))), (1, (.tmp 9))]) 141,
 sop nb 11 (.load 3 (.tmp 1)) 3,
 sop nb 12 (.call { callee := .value (.tmp 8), args := #[(.tmp 10), (.tmp 11)], argTypes := #[141, 3] }) 4,
 sop nb 13 (.unOp .not 4 (.tmp 12)) 4,
 sop nb 14 (.move (.tmp 13)) 4,
   ⟨some 15, (.move (.tmp 0)), 169, some (14, false), some (nb + 15)⟩,
   ⟨some 16, (.load 3 (.tmp 1)), 3, some (14, false), some (nb + 16)⟩,
   ⟨some 17, (.build 141 #[(0, (.const (.int .i64 1))), (1, (.tmp 16))]), 141, some (14, false), some (nb + 17)⟩,
   ⟨some 18, (.load 108 (.tmp 2)), 108, some (14, false), some (nb + 18)⟩,
   ⟨some 19, (.load 3 (.tmp 1)), 3, some (14, false), some (nb + 19)⟩,
   ⟨some 20, (.nilCheck (.tmp 18)), 0, some (14, false), some (nb + 20)⟩,
   ⟨some 21, (.fieldAddr 123 (.tmp 20) 1), 0, some (14, false), some (nb + 21)⟩,
   ⟨some 22, (.indexAddr 120 (.tmp 21) (.tmp 19)), 0, some (14, false), some (nb + 22)⟩,
   ⟨some 23, (.load 3 (.tmp 22)), 3, some (14, false), some (nb + 23)⟩,
   ⟨some 24, (.call { callee := .value (.tmp 15), args := #[(.tmp 17), (.tmp 23)], argTypes := #[141, 3] }), 4, some (14, false), some (nb + 24)⟩,
   ⟨some 25, (.unOp .not 4 (.tmp 24)), 4, some (14, false), some (nb + 25)⟩,
 sop nb 26 (.pick (.tmp 14) (.const (.bool true)) (.tmp 25)) 4]) (
 .cond (.tmp 26) (
  .ret) (
  .skip))) (
 .seq (
 .ops [sop nb 27 (.buildSlice 82 2 #[(0, (.const (.int .i64 2))), (1, (.const (.int .i64 3)))]) 82,
 sop nb 28 (.call { callee := .builtin .len, args := #[(.tmp 27)], argTypes := #[82] }) 3,
 sop nb 29 (.move (.const (.int .i64 0))) 3]) (
 .block 0 (
  .loop (
   .seq (
   .ops [sop nb 30 (.binOp .lss 3 (.tmp 29) (.tmp 28) 3) 0]) (
   .seq (
   .cond (.tmp 30) (
    .skip) (
    .exit 0)) (
   .seq (
   .block 1 (
    .seq (
    .ops [sop nb 31 (.indexAddr 82 (.tmp 27) (.tmp 29)) 0,
      sop nb 32 (.load 76 (.tmp 31)) 76,
      sop nb 5 (.assign (.tmp 32)) 76]) (
    .seq (
    .ops [sop nb 33 (.load 108 (.tmp 2)) 108,
      sop nb 34 (.nilCheck (.tmp 33)) 0,
      sop nb 35 (.fieldAddr 123 (.tmp 34) 0) 0,
      sop nb 36 (.fieldAddr 24 (.tmp 35) 0) 0,
      sop nb 37 (.load 3 (.tmp 36)) 3,
      sop nb 38 (.move (.const (.int .i64 0))) 3]) (
    .block 2 (
     .loop (
      .seq (
      .ops [sop nb 39 (.binOp .lss 3 (.tmp 38) (.tmp 37) 3) 4]) (
      .seq (
      .cond (.tmp 39) (
       .skip) (
       .exit 2)) (
      .seq (
      .block 3 (
       .seq (
       .ops [sop nb 40 (.move (.tmp 38)) 3,
         sop nb 6 (.assign (.tmp 40)) 3]) (
       .seq (
       .seq (
       .ops [sop nb 41 (.load 108 (.tmp 2)) 108,
         sop nb 42 (.nilCheck (.tmp 41)) 0,
         sop nb 43 (.fieldAddr 123 (.tmp 42) 2) 0,
         sop nb 44 (.load 121 (.tmp 43)) 121,
         sop nb 45 (.load 3 (.tmp 1)) 3,
         sop nb 46 (.move (.tmp 6)) 3,
         sop nb 47 (.build 115 #[(0, (.tmp 45)), (1, (.tmp 46))]) 115,
         sop nb 48 (.lookup 121 (.tmp 44) (.tmp 47) false) 4,
         sop nb 49 (.unOp .not 4 (.tmp 48)) 4]) (
       .cond (.tmp 49) (
        .exit 3) (
        .skip))) (
       .seq (
       .ops [sop nb 50 (.move (.tmp 6)) 3,
         sop nb 7 (.assign (.tmp 50)) 3]) (
       .seq (
       .seq (
       .ops [sop nb 51 (.move (.tmp 5)) 76,
         sop nb 52 (.binOp .eql 76 (.tmp 51) (.const (.int .i64 3)) 76) 4]) (
       .cond (.tmp 52) (
        .ops [sop nb 53 (.load 108 (.tmp 2)) 108,
          sop nb 54 (.move (.tmp 6)) 3,
          sop nb 55 (.nilCheck (.tmp 53)) 0,
          sop nb 56 (.fieldAddr 123 (.tmp 55) 1) 0,
          sop nb 57 (.indexAddr 120 (.tmp 56) (.tmp 54)) 0,
          sop nb 58 (.load 3 (.tmp 57)) 3,
          sop nb 7 (.assign (.tmp 58)) 3]) (
        .skip))) (
       .seq (
       .ops [sop nb 59 (.move (.tmp 0)) 169,
         sop nb 60 (.move (.tmp 5)) 76,
         sop nb 61 (.move (.tmp 6)) 3,
         sop nb 62 (.build 141 #[(0, (.tmp 60)), (1, (.tmp 61))]) 141,
         sop nb 63 (.move (.tmp 7)) 3,
         sop nb 64 (.call { callee := .value (.tmp 59), args := #[(.tmp 62), (.tmp 63)], argTypes := #[141, 3] }) 4,
         sop nb 65 (.unOp .not 4 (.tmp 64)) 4]) (
       .cond (.tmp 65) (
        .ret) (
        .skip)))))))) (
      .ops [sop nb 66 (.binOp .add 3 (.tmp 38) (.const (.int .i64 1)) 3) 3,
        sop nb 38 (.move (.tmp 66)) 3]))))))))) (
   .ops [sop nb 67 (.binOp .add 3 (.tmp 29) (.const (.int .i64 1)) 3) 3,
     sop nb 29 (.move (.tmp 67)) 3])))))))
@[go_sem] theorem rs110 : Go.Proofs.Try.f110.results.toList = [] := by kernel_rfl
theorem en110 : Enters Q 110 := enters_of Go.Proofs.Try.func110 rfl (by kernel_rfl)
theorem k110 (nb : Nat) : sk nb Go.Proofs.Try.f110.ntmps (Go.Proofs.Try.f110.body.getD .skip) = some (c110 nb) := by kernel_rfl
/-- slices.IndexFunc[[]smalto/api.StencilPair,smalto/api.StencilPair] -/
noncomputable def c111 (nb : Nat) : SC :=
 .seq (
 .ops [sop nb 4 (.assign (.const (.int .i64 0))) 3]) (
 .seq (
 .seq (
 .ops [sop nb 6 (.move (.tmp 0)) 22,
 sop nb 7 (.call { callee := .builtin .len, args := #[(.tmp 6)], argTypes := #[22] }) 3,
 sop nb 8 (.move (.const (.int .i64 0))) 3]) (
 .block 0 (
  .loop (
   .seq (
   .ops [sop nb 9 (.binOp .lss 3 (.tmp 8) (.tmp 7) 3) 0]) (
   .seq (
   .cond (.tmp 9) (
    .skip) (
    .exit 0)) (
   .seq (
   .block 1 (
    .seq (
    .ops [sop nb 10 (.move (.tmp 8)) 3,
      sop nb 5 (.assign (.tmp 10)) 3]) (
    .seq (
    .ops [sop nb 11 (.move (.tmp 1)) 163,
      sop nb 12 (.move (.tmp 0)) 22,
      sop nb 13 (.move (.tmp 5)) 3,
      sop nb 14 (.indexAddr 22 (.tmp 12) (.tmp 13)) 0,
      sop nb 15 (.load 115 (.tmp 14)) 115,
      sop nb 16 (.call { callee := .value (.tmp 11), args := #[(.tmp 15)], argTypes := #[115] }) 4]) (
    .cond (.tmp 16) (
     .seq (
     .ops [sop nb 17 (.move (.tmp 5)) 3,
       sop nb 4 (.assign (.tmp 17)) 3]) (
     .ret)) (
     .skip))))) (
   .ops [sop nb 18 (.binOp .add 3 (.tmp 8) (.const (.int .i64 1)) 3) 3,
     sop nb 8 (.move (.tmp 18)) 3]))))))) (
 .seq (
 .ops [sop nb 4 (.assign (.const (.int .i64 (-1)))) 3]) (
 .ret)))
@[go_sem] theorem rs111 : Go.Proofs.Try.f111.results.toList = [.tmp 4] := by kernel_rfl
theorem en111 : Enters Q 111 := enters_of Go.Proofs.Try.func111 rfl (by kernel_rfl)
theorem k111 (nb : Nat) : sk nb Go.Proofs.Try.f111.ntmps (Go.Proofs.Try.f111.body.getD .skip) = some (c111 nb) := by kernel_rfl
/-- slices.IndexFunc[[]int,int] -/
noncomputable def c112 (nb : Nat) : SC :=
 .seq (
 .ops [sop nb 4 (.assign (.const (.int .i64 0))) 3]) (
 .seq (
 .seq (
 .ops [sop nb 6 (.move (.tmp 0)) 26,
 sop nb 7 (.call { callee := .builtin .len, args := #[(.tmp 6)], argTypes := #[26] }) 3,
 sop nb 8 (.move (.const (.int .i64 0))) 3]) (
 .block 0 (
  .loop (
   .seq (
   .ops [sop nb 9 (.binOp .lss 3 (.tmp 8) (.tmp 7) 3) 0]) (
   .seq (
   .cond (.tmp 9) (
    .skip) (
    .exit 0)) (
   .seq (
   .block 1 (
    .seq (
    .ops [sop nb 10 (.move (.tmp 8)) 3,
      sop nb 5 (.assign (.tmp 10)) 3]) (
    .seq (
    .ops [sop nb 11 (.move (.tmp 1)) 167,
      sop nb 12 (.move (.tmp 0)) 26,
      sop nb 13 (.move (.tmp 5)) 3,
      sop nb 14 (.indexAddr 26 (.tmp 12) (.tmp 13)) 0,
      sop nb 15 (.load 3 (.tmp 14)) 3,
      sop nb 16 (.call { callee := .value (.tmp 11), args := #[(.tmp 15)], argTypes := #[3] }) 4]) (
    .cond (.tmp 16) (
     .seq (
     .ops [sop nb 17 (.move (.tmp 5)) 3,
       sop nb 4 (.assign (.tmp 17)) 3]) (
     .ret)) (
     .skip))))) (
   .ops [sop nb 18 (.binOp .add 3 (.tmp 8) (.const (.int .i64 1)) 3) 3,
     sop nb 8 (.move (.tmp 18)) 3]))))))) (
 .seq (
 .ops [sop nb 4 (.assign (.const (.int .i64 (-1)))) 3]) (
 .ret)))
@[go_sem] theorem rs112 : Go.Proofs.Try.f112.results.toList = [.tmp 4] := by kernel_rfl
theorem en112 : Enters Q 112 := enters_of Go.Proofs.Try.func112 rfl (by kernel_rfl)
theorem k112 (nb : Nat) : sk nb Go.Proofs.Try.f112.ntmps (Go.Proofs.Try.f112.body.getD .skip) = some (c112 nb) := by kernel_rfl
/-- slices.Index[[]int,int] -/
noncomputable def c113 (nb : Nat) : SC :=
 .seq (
 .ops [sop nb 4 (.assign (.const (.int .i64 0))) 3]) (
 .seq (
 .seq (
 .ops [sop nb 6 (.move (.tmp 0)) 26,
 sop nb 7 (.call { callee := .builtin .len, args := #[(.tmp 6)], argTypes := #[26] }) 3,
 sop nb 8 (.move (.const (.int .i64 0))) 3]) (
 .block 0 (
  .loop (
   .seq (
   .ops [sop nb 9 (.binOp .lss 3 (.tmp 8) (.tmp 7) 3) 0]) (
   .seq (
   .cond (.tmp 9) (
    .skip) (
    .exit 0)) (
   .seq (
   .block 1 (
    .seq (
    .ops [sop nb 10 (.move (.tmp 8)) 3,
      sop nb 5 (.assign (.tmp 10)) 3]) (
    .seq (
    .ops [sop nb 11 (.move (.tmp 1)) 3,
      sop nb 12 (.move (.tmp 0)) 26,
      sop nb 13 (.move (.tmp 5)) 3,
      sop nb 14 (.indexAddr 26 (.tmp 12) (.tmp 13)) 0,
      sop nb 15 (.load 3 (.tmp 14)) 3,
      sop nb 16 (.binOp .eql 3 (.tmp 11) (.tmp 15) 3) 4]) (
    .cond (.tmp 16) (
     .seq (
     .ops [sop nb 17 (.move (.tmp 5)) 3,
       sop nb 4 (.assign (.tmp 17)) 3]) (
     .ret)) (
     .skip))))) (
   .ops [sop nb 18 (.binOp .add 3 (.tmp 8) (.const (.int .i64 1)) 3) 3,
     sop nb 8 (.move (.tmp 18)) 3]))))))) (
 .seq (
 .ops [sop nb 4 (.assign (.const (.int .i64 (-1)))) 3]) (
 .ret)))
@[go_sem] theorem rs113 : Go.Proofs.Try.f113.results.toList = [.tmp 4] := by kernel_rfl
theorem en113 : Enters Q 113 := enters_of Go.Proofs.Try.func113 rfl (by kernel_rfl)
theorem k113 (nb : Nat) : sk nb Go.Proofs.Try.f113.ntmps (Go.Proofs.Try.f113.body.getD .skip) = some (c113 nb) := by kernel_rfl
end S07

