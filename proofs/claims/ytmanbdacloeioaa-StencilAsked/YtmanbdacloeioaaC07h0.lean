/- A part of the proof: C07h0, C07x0. -/
import Derived.Test.YtmanbdacloeioaaF07
set_option linter.unusedVariables false
set_option linter.unusedSimpArgs false
set_option maxRecDepth 20000
namespace S07
open Go Abs
/-- smalto/smaltolaw07.lay -/
noncomputable def c44 (nb : Nat) : SC :=
 .seq (
 .ops [sop nb 3 (.box 24 (.tmp 0)) 0,
 sop nb 6 (.assign (.const (.int .i64 0))) 76,
 sop nb 7 (.assign (.const (.int .i64 0))) 3,
 sop nb 8 (.assign (.const (.int .i64 0))) 3,
 sop nb 9 (.assign (.const (.int .i64 0))) 3]) (
 .seq (
 .ops [sop nb 11 (.move (.tmp 1)) 3,
 sop nb 12 (.move (.tmp 1)) 3,
 sop nb 7 (.assign (.tmp 11)) 3,
 sop nb 8 (.assign (.tmp 12)) 3]) (
 .seq (
 .seq (
 .ops [sop nb 13 (.load 24 (.tmp 3)) 24,
 sop nb 14 (.move (.tmp 1)) 3,
 sop nb 15 (.call { callee := .value (.func 77), args := #[(.tmp 13), (.tmp 14)], argTypes := #[24, 3] }) 26,
 sop nb 10 (.assign (.tmp 15)) 26]) (
 .seq (
 .ops [sop nb 16 (.move (.tmp 2)) 5,
 sop nb 17 (.binOp .rem 5 (.tmp 16) (.const (.int .u8 4)) 5) 5,
 sop nb 18 (.binOp .geq 5 (.tmp 17) (.const (.int .u8 2)) 5) 4,
 sop nb 19 (.move (.tmp 18)) 4,
   ⟨some 20, (.move (.tmp 10)), 26, some (19, true), some (nb + 20)⟩,
   ⟨some 21, (.call { callee := .builtin .len, args := #[(.tmp 20)], argTypes := #[26] }), 3, some (19, true), some (nb + 21)⟩,
   ⟨some 22, (.binOp .gtr 3 (.tmp 21) (.const (.int .i64 0)) 3), 4, some (19, true), some (nb + 22)⟩,
 sop nb 23 (.pick (.tmp 19) (.tmp 22) (.const (.bool false))) 4]) (
 .cond (.tmp 23) (
  .seq (
  .opsD [sop nb 24 (.move (.tmp 10)) 26,
    sop nb 25 (.move (.tmp 2)) 5,
    sop nb 26 (.convert 5 3 (.tmp 25)) 3,
    sop nb 27 (.binOp .quo 3 (.tmp 26) (.const (.int .i64 4)) 3) 3,
    sop nb 28 (.move (.tmp 10)) 26,
    sop nb 29 (.call { callee := .builtin .len, args := #[(.tmp 28)], argTypes := #[26] }) 3,
    sop nb 30 (.binOp .rem 3 (.tmp 27) (.tmp 29) 3) 3,
    sop nb 31 (.indexAddr 26 (.tmp 24) (.tmp 30)) 0,
    sop nb 32 (.load 3 (.tmp 31)) 3,
    sop nb 6 (.assign (.const (.int .i64 2))) 76,
    sop nb 7 (.assign (.tmp 32)) 3,
    sop nb 9 (.assign (.const (.int .i64 1))) 3] [(5, 9), (7, 9), (8, 9)]) (
  .ops [sop nb 33 (.move (.tmp 7)) 3,
    sop nb 8 (.assign (.tmp 33)) 3])) (
  .skip)))) (
 .seq (
 .seq (
 .ops [sop nb 34 (.move (.tmp 2)) 5,
 sop nb 35 (.binOp .rem 5 (.tmp 34) (.const (.int .u8 2)) 5) 5,
 sop nb 36 (.binOp .eql 5 (.tmp 35) (.const (.int .u8 1)) 5) 4]) (
 .cond (.tmp 36) (
  .ops [sop nb 37 (.move (.tmp 6)) 76,
    sop nb 38 (.binOp .add 76 (.tmp 37) (.const (.int .i64 1)) 76) 76,
    sop nb 39 (.load 24 (.tmp 3)) 24,
    sop nb 40 (.move (.tmp 7)) 3,
    sop nb 41 (.call { callee := .value (.func 50), args := #[(.tmp 39), (.tmp 40)], argTypes := #[24, 3] }) 3,
    sop nb 42 (.move (.tmp 9)) 3,
    sop nb 43 (.binOp .add 3 (.tmp 42) (.const (.int .i64 1)) 3) 3,
    sop nb 6 (.assign (.tmp 38)) 76,
    sop nb 8 (.assign (.tmp 41)) 3,
    sop nb 9 (.assign (.tmp 43)) 3]) (
  .skip))) (
 .seq (
 .ops [sop nb 44 (.move (.tmp 6)) 76,
 sop nb 45 (.move (.tmp 7)) 3,
 sop nb 46 (.move (.tmp 8)) 3,
 sop nb 47 (.move (.tmp 9)) 3,
 sop nb 6 (.assign (.tmp 44)) 76,
 sop nb 7 (.assign (.tmp 45)) 3,
 sop nb 8 (.assign (.tmp 46)) 3,
 sop nb 9 (.assign (.tmp 47)) 3]) (
 .ret)))))
@[go_sem] theorem rs44 : Go.Proofs.Try.f44.results.toList = [.tmp 6, .tmp 7, .tmp 8, .tmp 9] := by kernel_rfl
theorem en44 : Enters Q 44 := enters_of Go.Proofs.Try.func44 rfl (by kernel_rfl)
theorem k44 (nb : Nat) : sk nb Go.Proofs.Try.f44.ntmps (Go.Proofs.Try.f44.body.getD .skip) = some (c44 nb) := by kernel_rfl
/-- smalto/smaltolaw07.lists -/
noncomputable def c51 (nb : Nat) : SC :=
 .seq (
 .ops [sop nb 2 (.assign (.const (.slice none 0 0))) 25]) (
 .seq (
 .ops [sop nb 5 (.buildSlice 25 0 #[]) 25,
 sop nb 3 (.assign (.tmp 5)) 25]) (
 .seq (
 .seq (
 .ops [sop nb 4 (.assign (.const (.int .i64 0))) 3]) (
 .block 0 (
  .loop (
   .seq (
   .seq (
   .ops [sop nb 6 (.move (.tmp 4)) 3,
     sop nb 7 (.move (.tmp 0)) 25,
     sop nb 8 (.call { callee := .builtin .len, args := #[(.tmp 7)], argTypes := #[25] }) 3,
     sop nb 9 (.binOp .lss 3 (.tmp 6) (.tmp 8) 3) 4]) (
   .cond (.tmp 9) (
    .skip) (
    .exit 0))) (
   .seq (
   .block 1 (
    .ops [sop nb 12 (.move (.tmp 3)) 25,
      sop nb 13 (.move (.tmp 0)) 25,
      sop nb 14 (.move (.tmp 4)) 3,
      sop nb 15 (.indexAddr 25 (.tmp 13) (.tmp 14)) 0,
      sop nb 16 (.load 26 (.tmp 15)) 26,
      sop nb 17 (.call { callee := .value (.func 17), args := #[(.tmp 16)], argTypes := #[26] }) 26,
      sop nb 18 (.buildSlice 25 1 #[(0, (.tmp 17))]) 25,
      sop nb 19 (.call { callee := .builtin .append, args := #[(.tmp 12), (.tmp 18)], argTypes := #[25, 25] }) 25,
      sop nb 3 (.assign (.tmp 19)) 25])) (
   .ops [sop nb 10 (.move (.tmp 4)) 3,
     sop nb 11 (.binOp .add 3 (.tmp 10) (.const (.int .i64 1)) 3) 3,
     sop nb 4 (.assign (.tmp 11)) 3])))))) (
 .seq (
 .ops [sop nb 20 (.move (.tmp 3)) 25,
 sop nb 2 (.assign (.tmp 20)) 25]) (
 .ret))))
@[go_sem] theorem rs51 : Go.Proofs.Try.f51.results.toList = [.tmp 2] := by kernel_rfl
theorem en51 : Enters Q 51 := enters_of Go.Proofs.Try.func51 rfl (by kernel_rfl)
theorem k51 (nb : Nat) : sk nb Go.Proofs.Try.f51.ntmps (Go.Proofs.Try.f51.body.getD .skip) = some (c51 nb) := by kernel_rfl
/-- smalto/smaltolaw07.can -/
noncomputable def c52 (nb : Nat) : SC :=
 .seq (
 .ops [sop nb 6 (.box 24 (.tmp 0)) 0,
 sop nb 12 (.assign (.const (.bool false))) 4]) (
 .seq (
 .ops [sop nb 13 (.assign (.const (.int .i64 0))) 3]) (
 .seq (
 .seq (
 .ops [sop nb 14 (.assign (.const (.int .i64 0))) 3]) (
 .block 0 (
  .loop (
   .seq (
   .seq (
   .ops [sop nb 21 (.move (.tmp 14)) 3,
     sop nb 22 (.move (.tmp 1)) 26,
     sop nb 23 (.call { callee := .builtin .len, args := #[(.tmp 22)], argTypes := #[26] }) 3,
     sop nb 24 (.binOp .lss 3 (.tmp 21) (.tmp 23) 3) 4]) (
   .cond (.tmp 24) (
    .skip) (
    .exit 0))) (
   .seq (
   .block 1 (
    .seq (
    .ops [sop nb 15 (.assign (.const (.int .i64 9))) 3]) (
    .seq (
    .seq (
    .ops [sop nb 16 (.assign (.const (.int .i64 0))) 3]) (
    .block 2 (
     .loop (
      .seq (
      .seq (
      .ops [sop nb 27 (.move (.tmp 16)) 3,
        sop nb 28 (.binOp .lss 3 (.tmp 27) (.const (.int .i64 64)) 3) 4]) (
      .cond (.tmp 28) (
       .skip) (
       .exit 2))) (
      .seq (
      .block 3 (
       .seq (
       .ops [sop nb 32 (.load 24 (.tmp 6)) 24,
         sop nb 33 (.move (.tmp 1)) 26,
         sop nb 34 (.move (.tmp 14)) 3,
         sop nb 35 (.indexAddr 26 (.tmp 33) (.tmp 34)) 0,
         sop nb 36 (.load 3 (.tmp 35)) 3,
         sop nb 37 (.move (.tmp 16)) 3,
         sop nb 38 (.convert 3 5 (.tmp 37)) 5,
         sop nb 39 (.call { callee := .value (.func 44), args := #[(.tmp 32), (.tmp 36), (.tmp 38)], argTypes := #[24, 3, 5] }) 77,
         sop nb 31 (.move (.tmp 39)) 77,
         sop nb 40 (.extract (.tmp 31) 0) 76,
         sop nb 41 (.extract (.tmp 31) 1) 3,
         sop nb 42 (.extract (.tmp 31) 2) 3,
         sop nb 43 (.extract (.tmp 31) 3) 3,
         sop nb 17 (.assign (.tmp 40)) 76,
         sop nb 18 (.assign (.tmp 41)) 3,
         sop nb 19 (.assign (.tmp 42)) 3,
         sop nb 20 (.assign (.tmp 43)) 3]) (
       .seq (
       .ops [sop nb 44 (.move (.tmp 19)) 3,
         sop nb 45 (.move (.tmp 2)) 26,
         sop nb 46 (.move (.tmp 14)) 3,
         sop nb 47 (.indexAddr 26 (.tmp 45) (.tmp 46)) 0,
         sop nb 48 (.load 3 (.tmp 47)) 3,
         sop nb 49 (.binOp .eql 3 (.tmp 44) (.tmp 48) 3) 4,
         sop nb 50 (.move (.tmp 49)) 4,
         ⟨some 51, (.move (.tmp 14)), 3, some (50, true), some (nb + 51)⟩,
         ⟨some 52, (.move (.tmp 4)), 3, some (50, true), some (nb + 52)⟩,
         ⟨some 53, (.binOp .neq 3 (.tmp 51) (.tmp 52) 3), 4, some (50, true), some (nb + 53)⟩,
         ⟨some 54, (.move (.tmp 53)), 4, some (50, true), some (nb + 54)⟩,
         ⟨some 55, (.move (.tmp 18)), 3, some (54, false), some (nb + 55)⟩,
         ⟨some 56, (.move (.tmp 5)), 3, some (54, false), some (nb + 56)⟩,
         ⟨some 57, (.binOp .eql 3 (.tmp 55) (.tmp 56) 3), 4, some (54, false), some (nb + 57)⟩,
         ⟨some 58, (.pick (.tmp 54) (.const (.bool true)) (.tmp 57)), 4, some (50, true), some (nb + 58)⟩,
         sop nb 59 (.pick (.tmp 50) (.tmp 58) (.const (.bool false))) 4]) (
       .cond (.tmp 59) (
        .ops [sop nb 60 (.move (.tmp 15)) 3,
          sop nb 61 (.move (.tmp 20)) 3,
          sop nb 62 (.call { callee := .builtin .min, args := #[(.tmp 60), (.tmp 61)], argTypes := #[3, 3] }) 3,
          sop nb 15 (.assign (.tmp 62)) 3]) (
        .skip))))) (
      .ops [sop nb 29 (.move (.tmp 16)) 3,
        sop nb 30 (.binOp .add 3 (.tmp 29) (.const (.int .i64 1)) 3) 3,
        sop nb 16 (.assign (.tmp 30)) 3])))))) (
    .ops [sop nb 63 (.move (.tmp 13)) 3,
      sop nb 64 (.move (.tmp 15)) 3,
      sop nb 65 (.binOp .add 3 (.tmp 63) (.tmp 64) 3) 3,
      sop nb 13 (.assign (.tmp 65)) 3])))) (
   .ops [sop nb 25 (.move (.tmp 14)) 3,
     sop nb 26 (.binOp .add 3 (.tmp 25) (.const (.int .i64 1)) 3) 3,
     sop nb 14 (.assign (.tmp 26)) 3])))))) (
 .seq (
 .ops [sop nb 66 (.move (.tmp 13)) 3,
 sop nb 67 (.move (.tmp 3)) 3,
 sop nb 68 (.binOp .leq 3 (.tmp 66) (.tmp 67) 3) 4,
 sop nb 12 (.assign (.tmp 68)) 4]) (
 .ret))))
@[go_sem] theorem rs52 : Go.Proofs.Try.f52.results.toList = [.tmp 12] := by kernel_rfl
theorem en52 : Enters Q 52 := enters_of Go.Proofs.Try.func52 rfl (by kernel_rfl)
theorem k52 (nb : Nat) : sk nb Go.Proofs.Try.f52.ntmps (Go.Proofs.Try.f52.body.getD .skip) = some (c52 nb) := by kernel_rfl
/-- smalto/smaltolaw07.alike -/
noncomputable def c77 (nb : Nat) : SC :=
 .seq (
 .ops [sop nb 2 (.box 24 (.tmp 0)) 0,
 sop nb 4 (.assign (.const (.slice none 0 0))) 26]) (
 .seq (
 .ops [sop nb 8 (.buildSlice 26 0 #[]) 26,
 sop nb 5 (.assign (.tmp 8)) 26]) (
 .seq (
 .seq (
 .ops [sop nb 6 (.assign (.const (.int .i64 0))) 3]) (
 .block 0 (
  .loop (
   .seq (
   .seq (
   .ops [sop nb 9 (.move (.tmp 6)) 3,
     sop nb 10 (.fieldAddr 24 (.tmp 2) 2) 0,
     sop nb 11 (.load 22 (.tmp 10)) 22,
     sop nb 12 (.call { callee := .builtin .len, args := #[(.tmp 11)], argTypes := #[22] }) 3,
     sop nb 13 (.binOp .lss 3 (.tmp 9) (.tmp 12) 3) 4]) (
   .cond (.tmp 13) (
    .skip) (
    .exit 0))) (
   .seq (
   .block 1 (
    .seq (
    .ops [sop nb 16 (.fieldAddr 24 (.tmp 2) 2) 0,
      sop nb 17 (.load 22 (.tmp 16)) 22,
      sop nb 18 (.move (.tmp 6)) 3,
      sop nb 19 (.indexAddr 22 (.tmp 17) (.tmp 18)) 0,
      sop nb 20 (.load 115 (.tmp 19)) 115,
      sop nb 7 (.alloc 115) 0,
      ⟨none, (.store 115 (.tmp 7) (.tmp 20)), 0, none, none⟩]) (
    .seq (
    .ops [sop nb 21 (.move (.tmp 1)) 3]) (
    .block 2 (
     .seq (
     .ops [sop nb 23 (.fieldAddr 115 (.tmp 7) 0) 0,
       sop nb 24 (.load 3 (.tmp 23)) 3,
       sop nb 25 (.binOp .eql 3 (.tmp 21) (.tmp 24) 3) 4,
       sop nb 22 (.assign (.tmp 25)) 4]) (
     .cond (.tmp 22) (
      .ops [sop nb 26 (.move (.tmp 5)) 26,
        sop nb 27 (.fieldAddr 115 (.tmp 7) 1) 0,
        sop nb 28 (.load 3 (.tmp 27)) 3,
        sop nb 29 (.buildSlice 26 1 #[(0, (.tmp 28))]) 26,
        sop nb 30 (.call { callee := .builtin .append, args := #[(.tmp 26), (.tmp 29)], argTypes := #[26, 26] }) 26,
        sop nb 5 (.assign (.tmp 30)) 26]) (
      .seq (
      .ops [sop nb 32 (.fieldAddr 115 (.tmp 7) 1) 0,
        sop nb 33 (.load 3 (.tmp 32)) 3,
        sop nb 34 (.binOp .eql 3 (.tmp 21) (.tmp 33) 3) 4,
        sop nb 31 (.assign (.tmp 34)) 4]) (
      .cond (.tmp 31) (
       .ops [sop nb 35 (.move (.tmp 5)) 26,
         sop nb 36 (.fieldAddr 115 (.tmp 7) 0) 0,
         sop nb 37 (.load 3 (.tmp 36)) 3,
         sop nb 38 (.buildSlice 26 1 #[(0, (.tmp 37))]) 26,
         sop nb 39 (.call { callee := .builtin .append, args := #[(.tmp 35), (.tmp 38)], argTypes := #[26, 26] }) 26,
         sop nb 5 (.assign (.tmp 39)) 26]) (
       .skip))))))))) (
   .ops [sop nb 14 (.move (.tmp 6)) 3,
     sop nb 15 (.binOp .add 3 (.tmp 14) (.const (.int .i64 1)) 3) 3,
     sop nb 6 (.assign (.tmp 15)) 3])))))) (
 .seq (
 .ops [sop nb 40 (.move (.tmp 5)) 26,
 sop nb 4 (.assign (.tmp 40)) 26]) (
 .ret))))
@[go_sem] theorem rs77 : Go.Proofs.Try.f77.results.toList = [.tmp 4] := by kernel_rfl
theorem en77 : Enters Q 77 := enters_of Go.Proofs.Try.func77 rfl (by kernel_rfl)
theorem k77 (nb : Nat) : sk nb Go.Proofs.Try.f77.ntmps (Go.Proofs.Try.f77.body.getD .skip) = some (c77 nb) := by kernel_rfl
end S07

namespace S07
open Go Abs
/-- smalto/smaltolaw07.known -/
noncomputable def c14 (nb : Nat) : SC :=
 .seq (
 .ops [sop nb 0 (.assign (.const (.bool false))) 4]) (
 .seq (
 .ops [sop nb 26 (.buildSlice 26 3 #[(0, (.const (.int .i64 1))), (1, (.const (.int .i64 3))), (2, (.const (.int .i64 4)))]) 26,
 sop nb 27 (.buildSlice 26 5 #[(0, (.const (.int .i64 1))), (1, (.const (.int .i64 0))), (2, (.const (.int .i64 1))), (3, (.const (.int .i64 1))), (4, (.const (.int .i64 1)))]) 26,
 sop nb 1 (.assign (.tmp 26)) 26,
 sop nb 2 (.assign (.tmp 27)) 26]) (
 .seq (
 .opsD [sop nb 29 (.call { callee := .value (.func 57), args := #[], argTypes := #[] }) 24,
 sop nb 30 (.call { callee := .value (.func 58), args := #[], argTypes := #[] }) 25,
 sop nb 31 (.indexAddr 25 (.tmp 30) (.const (.int .i64 0))) 0,
 sop nb 32 (.load 26 (.tmp 31)) 26,
 sop nb 33 (.move (.tmp 1)) 26,
 sop nb 34 (.call { callee := .value (.func 17), args := #[(.tmp 33)], argTypes := #[26] }) 26,
 sop nb 35 (.call { callee := .value (.func 45), args := #[(.tmp 29), (.tmp 32), (.tmp 34)], argTypes := #[24, 26, 26] }) 80,
 sop nb 28 (.move (.tmp 35)) 80,
 sop nb 36 (.extract (.tmp 28) 0) 79,
 sop nb 37 (.extract (.tmp 28) 1) 34,
 sop nb 3 (.assign (.tmp 36)) 79,
 sop nb 4 (.assign (.tmp 37)) 34] [(2, 5), (3, 5)]) (
 .seq (
 .opsD [sop nb 39 (.call { callee := .value (.func 57), args := #[], argTypes := #[] }) 24,
 sop nb 40 (.call { callee := .value (.func 58), args := #[], argTypes := #[] }) 25,
 sop nb 41 (.indexAddr 25 (.tmp 40) (.const (.int .i64 0))) 0,
 sop nb 42 (.load 26 (.tmp 41)) 26,
 sop nb 43 (.move (.tmp 1)) 26,
 sop nb 44 (.call { callee := .value (.func 17), args := #[(.tmp 43)], argTypes := #[26] }) 26,
 sop nb 45 (.call { callee := .value (.func 47), args := #[(.tmp 39), (.tmp 42), (.tmp 44)], argTypes := #[24, 26, 26] }) 83,
 sop nb 38 (.move (.tmp 45)) 83,
 sop nb 46 (.extract (.tmp 38) 0) 82,
 sop nb 47 (.extract (.tmp 38) 1) 3,
 sop nb 48 (.extract (.tmp 38) 2) 34,
 sop nb 5 (.assign (.tmp 46)) 82,
 sop nb 6 (.assign (.tmp 47)) 3,
 sop nb 7 (.assign (.tmp 48)) 34] [(2, 5), (3, 5)]) (
 .seq (
 .ops [sop nb 50 (.call { callee := .value (.func 57), args := #[], argTypes := #[] }) 24,
 sop nb 51 (.call { callee := .value (.func 58), args := #[], argTypes := #[] }) 25,
 sop nb 52 (.move (.tmp 1)) 26,
 sop nb 53 (.call { callee := .value (.func 17), args := #[(.tmp 52)], argTypes := #[26] }) 26,
 sop nb 54 (.call { callee := .value (.func 18), args := #[(.tmp 50), (.tmp 51), (.tmp 53), (.const (.int .i64 1))], argTypes := #[24, 25, 26, 3] }) 35,
 sop nb 49 (.move (.tmp 54)) 35,
 sop nb 55 (.extract (.tmp 49) 0) 26,
 sop nb 56 (.extract (.tmp 49) 1) 34,
 sop nb 8 (.assign (.tmp 55)) 26,
 sop nb 9 (.assign (.tmp 56)) 34]) (
 .seq (
 .ops [sop nb 58 (.call { callee := .value (.func 57), args := #[], argTypes := #[] }) 24,
 sop nb 59 (.call { callee := .value (.func 58), args := #[], argTypes := #[] }) 25,
 sop nb 60 (.move (.tmp 1)) 26,
 sop nb 61 (.call { callee := .value (.func 17), args := #[(.tmp 60)], argTypes := #[26] }) 26,
 sop nb 62 (.call { callee := .value (.func 18), args := #[(.tmp 58), (.tmp 59), (.tmp 61), (.const (.int .i64 2))], argTypes := #[24, 25, 26, 3] }) 35,
 sop nb 57 (.move (.tmp 62)) 35,
 sop nb 63 (.extract (.tmp 57) 0) 26,
 sop nb 64 (.extract (.tmp 57) 1) 34,
 sop nb 10 (.assign (.tmp 63)) 26,
 sop nb 11 (.assign (.tmp 64)) 34]) (
 .seq (
 .ops [sop nb 66 (.call { callee := .value (.func 57), args := #[], argTypes := #[] }) 24,
 sop nb 67 (.call { callee := .value (.func 58), args := #[], argTypes := #[] }) 25,
 sop nb 68 (.move (.tmp 1)) 26,
 sop nb 69 (.call { callee := .value (.func 17), args := #[(.tmp 68)], argTypes := #[26] }) 26,
 sop nb 70 (.call { callee := .value (.func 19), args := #[(.tmp 66), (.tmp 67), (.tmp 69), (.const (.int .i64 2))], argTypes := #[24, 25, 26, 3] }) 37,
 sop nb 65 (.move (.tmp 70)) 37,
 sop nb 71 (.extract (.tmp 65) 0) 3,
 sop nb 72 (.extract (.tmp 65) 1) 3,
 sop nb 73 (.extract (.tmp 65) 2) 34,
 sop nb 12 (.assign (.tmp 71)) 3,
 sop nb 13 (.assign (.tmp 72)) 3,
 sop nb 14 (.assign (.tmp 73)) 34]) (
 .seq (
 .ops [sop nb 75 (.call { callee := .value (.func 57), args := #[], argTypes := #[] }) 24,
 sop nb 76 (.move (.tmp 2)) 26,
 sop nb 77 (.call { callee := .value (.func 17), args := #[(.tmp 76)], argTypes := #[26] }) 26,
 sop nb 78 (.move (.tmp 1)) 26,
 sop nb 79 (.call { callee := .value (.func 17), args := #[(.tmp 78)], argTypes := #[26] }) 26,
 sop nb 80 (.call { callee := .value (.func 29), args := #[(.tmp 75), (.tmp 77), (.tmp 79)], argTypes := #[24, 26, 26] }) 35,
 sop nb 74 (.move (.tmp 80)) 35,
 sop nb 81 (.extract (.tmp 74) 0) 26,
 sop nb 82 (.extract (.tmp 74) 1) 34,
 sop nb 15 (.assign (.tmp 81)) 26,
 sop nb 16 (.assign (.tmp 82)) 34]) (
 .seq (
 .ops [sop nb 84 (.call { callee := .value (.func 57), args := #[], argTypes := #[] }) 24,
 sop nb 85 (.move (.tmp 2)) 26,
 sop nb 86 (.call { callee := .value (.func 17), args := #[(.tmp 85)], argTypes := #[26] }) 26,
 sop nb 87 (.buildSlice 26 2 #[(0, (.const (.int .i64 0))), (1, (.const (.int .i64 1)))]) 26,
 sop nb 88 (.call { callee := .value (.func 30), args := #[(.tmp 84), (.tmp 86), (.tmp 87)], argTypes := #[24, 26, 26] }) 35,
 sop nb 83 (.move (.tmp 88)) 35,
 sop nb 89 (.extract (.tmp 83) 0) 26,
 sop nb 90 (.extract (.tmp 83) 1) 34,
 sop nb 17 (.assign (.tmp 89)) 26,
 sop nb 18 (.assign (.tmp 90)) 34]) (
 .seq (
 .ops [sop nb 92 (.call { callee := .value (.func 57), args := #[], argTypes := #[] }) 24,
 sop nb 93 (.move (.tmp 2)) 26,
 sop nb 94 (.call { callee := .value (.func 17), args := #[(.tmp 93)], argTypes := #[26] }) 26,
 sop nb 95 (.buildSlice 26 2 #[(0, (.const (.int .i64 0))), (1, (.const (.int .i64 1)))]) 26,
 sop nb 96 (.buildSlice 26 3 #[(0, (.const (.int .i64 1))), (1, (.const (.int .i64 3))), (2, (.const (.int .i64 4)))]) 26,
 sop nb 97 (.buildSlice 25 2 #[(0, (.tmp 95)), (1, (.tmp 96))]) 25,
 sop nb 98 (.call { callee := .value (.func 35), args := #[(.tmp 92), (.tmp 94), (.tmp 97)], argTypes := #[24, 26, 25] }) 35,
 sop nb 91 (.move (.tmp 98)) 35,
 sop nb 99 (.extract (.tmp 91) 0) 26,
 sop nb 100 (.extract (.tmp 91) 1) 34,
 sop nb 19 (.assign (.tmp 99)) 26,
 sop nb 20 (.assign (.tmp 100)) 34]) (
 .seq (
 .ops [sop nb 102 (.call { callee := .value (.func 57), args := #[], argTypes := #[] }) 24,
 sop nb 103 (.call { callee := .value (.func 59), args := #[], argTypes := #[] }) 25,
 sop nb 104 (.buildSlice 26 5 #[(0, (.const (.int .i64 1))), (1, (.const (.int .i64 1))), (2, (.const (.int .i64 1))), (3, (.const (.int .i64 1))), (4, (.const (.int .i64 2)))]) 26,
 sop nb 105 (.call { callee := .value (.func 37), args := #[(.tmp 102), (.tmp 103), (.tmp 104), (.const (.int .i64 2))], argTypes := #[24, 25, 26, 3] }) 60,
 sop nb 101 (.move (.tmp 105)) 60,
 sop nb 106 (.extract (.tmp 101) 0) 25,
 sop nb 107 (.extract (.tmp 101) 1) 34,
 sop nb 21 (.assign (.tmp 106)) 25,
 sop nb 22 (.assign (.tmp 107)) 34]) (
 .seq (
 .ops [sop nb 109 (.call { callee := .value (.func 57), args := #[], argTypes := #[] }) 24,
 sop nb 110 (.call { callee := .value (.func 59), args := #[], argTypes := #[] }) 25,
 sop nb 111 (.buildSlice 26 5 #[(0, (.const (.int .i64 1))), (1, (.const (.int .i64 1))), (2, (.const (.int .i64 1))), (3, (.const (.int .i64 1))), (4, (.const (.int .i64 2)))]) 26,
 sop nb 112 (.call { callee := .value (.func 38), args := #[(.tmp 109), (.tmp 110), (.tmp 111), (.const (.int .i64 2))], argTypes := #[24, 25, 26, 3] }) 62,
 sop nb 108 (.move (.tmp 112)) 62,
 sop nb 113 (.extract (.tmp 108) 0) 26,
 sop nb 114 (.extract (.tmp 108) 1) 26,
 sop nb 115 (.extract (.tmp 108) 2) 34,
 sop nb 23 (.assign (.tmp 113)) 26,
 sop nb 24 (.assign (.tmp 114)) 26,
 sop nb 25 (.assign (.tmp 115)) 34]) (
 .seq (
 .seq (
 .ops [sop nb 116 (.move (.tmp 4)) 34,
 sop nb 117 (.binOp .neq 34 (.tmp 116) (.const (.int .i64 0)) 34) 4,
 sop nb 118 (.move (.tmp 117)) 4,
   ⟨some 119, (.move (.tmp 7)), 34, some (118, false), some (nb + 119)⟩,
   ⟨some 120, (.binOp .neq 34 (.tmp 119) (.const (.int .i64 0)) 34), 4, some (118, false), some (nb + 120)⟩,
 sop nb 121 (.pick (.tmp 118) (.const (.bool true)) (.tmp 120)) 4,
 sop nb 122 (.move (.tmp 121)) 4,
   ⟨some 123, (.move (.tmp 9)), 34, some (122, false), some (nb + 123)⟩,
   ⟨some 124, (.binOp .neq 34 (.tmp 123) (.const (.int .i64 0)) 34), 4, some (122, false), some (nb + 124)⟩,
 sop nb 125 (.pick (.tmp 122) (.const (.bool true)) (.tmp 124)) 4,
 sop nb 126 (.move (.tmp 125)) 4,
   ⟨some 127, (.move (.tmp 11)), 34, some (126, false), some (nb + 127)⟩,
   ⟨some 128, (.binOp .neq 34 (.tmp 127) (.const (.int .i64 0)) 34), 4, some (126, false), some (nb + 128)⟩,
 sop nb 129 (.pick (.tmp 126) (.const (.bool true)) (.tmp 128)) 4,
 sop nb 130 (.move (.tmp 129)) 4,
   ⟨some 131, (.move (.tmp 14)), 34, some (130, false), some (nb + 131)⟩,
   ⟨some 132, (.binOp .neq 34 (.tmp 131) (.const (.int .i64 0)) 34), 4, some (130, false), some (nb + 132)⟩,
 sop nb 133 (.pick (.tmp 130) (.const (.bool true)) (.tmp 132)) 4,
 sop nb 134 (.move (.tmp 133)) 4,
   ⟨some 135, (.move (.tmp 16)), 34, some (134, false), some (nb + 135)⟩,
   ⟨some 136, (.binOp .neq 34 (.tmp 135) (.const (.int .i64 0)) 34), 4, some (134, false), some (nb + 136)⟩,
 sop nb 137 (.pick (.tmp 134) (.const (.bool true)) (.tmp 136)) 4,
 sop nb 138 (.move (.tmp 137)) 4,
   ⟨some 139, (.move (.tmp 18)), 34, some (138, false), some (nb + 139)⟩,
   ⟨some 140, (.binOp .neq 34 (.tmp 139) (.const (.int .i64 0)) 34), 4, some (138, false), some (nb + 140)⟩,
 sop nb 141 (.pick (.tmp 138) (.const (.bool true)) (.tmp 140)) 4,
 sop nb 142 (.move (.tmp 141)) 4,
   ⟨some 143, (.move (.tmp 20)), 34, some (142, false), some (nb + 143)⟩,
   ⟨some 144, (.binOp .neq 34 (.tmp 143) (.const (.int .i64 0)) 34), 4, some (142, false), some (nb + 144)⟩,
 sop nb 145 (.pick (.tmp 142) (.const (.bool true)) (.tmp 144)) 4,
 sop nb 146 (.move (.tmp 145)) 4,
   ⟨some 147, (.move (.tmp 22)), 34, some (146, false), some (nb + 147)⟩,
   ⟨some 148, (.binOp .neq 34 (.tmp 147) (.const (.int .i64 0)) 34), 4, some (146, false), some (nb + 148)⟩,
 sop nb 149 (.pick (.tmp 146) (.const (.bool true)) (.tmp 148)) 4,
 sop nb 150 (.move (.tmp 149)) 4,
   ⟨some 151, (.move (.tmp 25)), 34, some (150, false), some (nb + 151)⟩,
   ⟨some 152, (.binOp .neq 34 (.tmp 151) (.const (.int .i64 0)) 34), 4, some (150, false), some (nb + 152)⟩,
 sop nb 153 (.pick (.tmp 150) (.const (.bool true)) (.tmp 152)) 4,
 sop nb 154 (.move (.tmp 153)) 4,
   ⟨some 155, (.move (.tmp 3)), 79, some (154, false), some (nb + 155)⟩,
   ⟨some 156, (.call { callee := .builtin .len, args := #[(.tmp 155)], argTypes := #[79] }), 3, some (154, false), some (nb + 156)⟩,
   ⟨some 157, (.binOp .neq 3 (.tmp 156) (.const (.int .i64 3)) 3), 4, some (154, false), some (nb + 157)⟩,
 sop nb 158 (.pick (.tmp 154) (.const (.bool true)) (.tmp 157)) 4]) (
 .cond (.tmp 158) (
  .seq (
  .ops [sop nb 0 (.assign (.const (.bool false))) 4]) (
  .ret)) (
  .skip))) (
 .seq (
 .seq (
 .ops [sop nb 159 (.move (.tmp 3)) 79,
 sop nb 160 (.indexAddr 79 (.tmp 159) (.const (.int .i64 0))) 0,
 sop nb 161 (.load 82 (.tmp 160)) 82,
 sop nb 162 (.call { callee := .value (.func 48), args := #[(.tmp 161)], argTypes := #[82] }) 26,
 sop nb 163 (.buildSlice 26 1 #[(0, (.const (.int .i64 1)))]) 26,
 sop nb 164 (.call { callee := .value (.func 22), args := #[(.tmp 162), (.tmp 163)], argTypes := #[26, 26] }) 4,
 sop nb 165 (.unOp .not 4 (.tmp 164)) 4,
 sop nb 166 (.move (.tmp 165)) 4,
   ⟨some 167, (.move (.tmp 3)), 79, some (166, false), some (nb + 167)⟩,
   ⟨some 168, (.indexAddr 79 (.tmp 167) (.const (.int .i64 1))), 0, some (166, false), some (nb + 168)⟩,
   ⟨some 169, (.load 82 (.tmp 168)), 82, some (166, false), some (nb + 169)⟩,
   ⟨some 170, (.call { callee := .value (.func 48), args := #[(.tmp 169)], argTypes := #[82] }), 26, some (166, false), some (nb + 170)⟩,
   ⟨some 171, (.buildSlice 26 2 #[(0, (.const (.int .i64 0))), (1, (.const (.int .i64 1)))]), 26, some (166, false), some (nb + 171)⟩,
   ⟨some 172, (.call { callee := .value (.func 22), args := #[(.tmp 170), (.tmp 171)], argTypes := #[26, 26] }), 4, some (166, false), some (nb + 172)⟩,
   ⟨some 173, (.unOp .not 4 (.tmp 172)), 4, some (166, false), some (nb + 173)⟩,
 sop nb 174 (.pick (.tmp 166) (.const (.bool true)) (.tmp 173)) 4,
 sop nb 175 (.move (.tmp 174)) 4,
   ⟨some 176, (.move (.tmp 3)), 79, some (175, false), some (nb + 176)⟩,
   ⟨some 177, (.indexAddr 79 (.tmp 176) (.const (.int .i64 2))), 0, some (175, false), some (nb + 177)⟩,
   ⟨some 178, (.load 82 (.tmp 177)), 82, some (175, false), some (nb + 178)⟩,
   ⟨some 179, (.call { callee := .value (.func 48), args := #[(.tmp 178)], argTypes := #[82] }), 26, some (175, false), some (nb + 179)⟩,
   ⟨some 180, (.buildSlice 26 1 #[(0, (.const (.int .i64 0)))]), 26, some (175, false), some (nb + 180)⟩,
   ⟨some 181, (.call { callee := .value (.func 22), args := #[(.tmp 179), (.tmp 180)], argTypes := #[26, 26] }), 4, some (175, false), some (nb + 181)⟩,
   ⟨some 182, (.unOp .not 4 (.tmp 181)), 4, some (175, false), some (nb + 182)⟩,
 sop nb 183 (.pick (.tmp 175) (.const (.bool true)) (.tmp 182)) 4,
 sop nb 184 (.move (.tmp 183)) 4,
   ⟨some 185, (.move (.tmp 5)), 82, some (184, false), some (nb + 185)⟩,
   ⟨some 186, (.call { callee := .value (.func 48), args := #[(.tmp 185)], argTypes := #[82] }), 26, some (184, false), some (nb + 186)⟩,
   ⟨some 187, (.buildSlice 26 3 #[(0, (.const (.int .i64 1))), (1, (.const (.int .i64 0))), (2, (.const (.int .i64 0)))]), 26, some (184, false), some (nb + 187)⟩,
   ⟨some 188, (.call { callee := .value (.func 22), args := #[(.tmp 186), (.tmp 187)], argTypes := #[26, 26] }), 4, some (184, false), some (nb + 188)⟩,
   ⟨some 189, (.unOp .not 4 (.tmp 188)), 4, some (184, false), some (nb + 189)⟩,
 sop nb 190 (.pick (.tmp 184) (.const (.bool true)) (.tmp 189)) 4,
 sop nb 191 (.move (.tmp 190)) 4,
   ⟨some 192, (.move (.tmp 6)), 3, some (191, false), some (nb + 192)⟩,
   ⟨some 193, (.binOp .neq 3 (.tmp 192) (.const (.int .i64 1)) 3), 4, some (191, false), some (nb + 193)⟩,
 sop nb 194 (.pick (.tmp 191) (.const (.bool true)) (.tmp 193)) 4,
 sop nb 195 (.move (.tmp 194)) 4,
   ⟨some 196, (.move (.tmp 8)), 26, some (195, false), some (nb + 196)⟩,
   ⟨some 197, (.buildSlice 26 2 #[(0, (.const (.int .i64 0))), (1, (.const (.int .i64 1)))]), 26, some (195, false), some (nb + 197)⟩,
   ⟨some 198, (.call { callee := .value (.func 22), args := #[(.tmp 196), (.tmp 197)], argTypes := #[26, 26] }), 4, some (195, false), some (nb + 198)⟩,
   ⟨some 199, (.unOp .not 4 (.tmp 198)), 4, some (195, false), some (nb + 199)⟩,
 sop nb 200 (.pick (.tmp 195) (.const (.bool true)) (.tmp 199)) 4,
 sop nb 201 (.move (.tmp 200)) 4,
   ⟨some 202, (.move (.tmp 10)), 26, some (201, false), some (nb + 202)⟩,
   ⟨some 203, (.buildSlice 26 3 #[(0, (.const (.int .i64 0))), (1, (.const (.int .i64 1))), (2, (.const (.int .i64 2)))]), 26, some (201, false), some (nb + 203)⟩,
   ⟨some 204, (.call { callee := .value (.func 22), args := #[(.tmp 202), (.tmp 203)], argTypes := #[26, 26] }), 4, some (201, false), some (nb + 204)⟩,
   ⟨some 205, (.unOp .not 4 (.tmp 204)), 4, some (201, false), some (nb + 205)⟩,
 sop nb 206 (.pick (.tmp 201) (.const (.bool true)) (.tmp 205)) 4,
 sop nb 207 (.move (.tmp 206)) 4,
   ⟨some 208, (.move (.tmp 12)), 3, some (207, false), some (nb + 208)⟩,
   ⟨some 209, (.binOp .neq 3 (.tmp 208) (.const (.int .i64 0)) 3), 4, some (207, false), some (nb + 209)⟩,
 sop nb 210 (.pick (.tmp 207) (.const (.bool true)) (.tmp 209)) 4,
 sop nb 211 (.move (.tmp 210)) 4,
   ⟨some 212, (.move (.tmp 13)), 3, some (211, false), some (nb + 212)⟩,
   ⟨some 213, (.binOp .neq 3 (.tmp 212) (.const (.int .i64 2)) 3), 4, some (211, false), some (nb + 213)⟩,
 sop nb 214 (.pick (.tmp 211) (.const (.bool true)) (.tmp 213)) 4]) (
 .cond (.tmp 214) (
  .seq (
  .ops [sop nb 0 (.assign (.const (.bool false))) 4]) (
  .ret)) (
  .skip))) (
 .seq (
 .ops [sop nb 215 (.move (.tmp 15)) 26,
 sop nb 216 (.buildSlice 26 3 #[(0, (.const (.int .i64 0))), (1, (.const (.int .i64 3))), (2, (.const (.int .i64 4)))]) 26,
 sop nb 217 (.call { callee := .value (.func 22), args := #[(.tmp 215), (.tmp 216)], argTypes := #[26, 26] }) 4,
 sop nb 218 (.move (.tmp 217)) 4,
   ⟨some 219, (.move (.tmp 17)), 26, some (218, true), some (nb + 219)⟩,
   ⟨some 220, (.buildSlice 26 1 #[(0, (.const (.int .i64 0)))]), 26, some (218, true), some (nb + 220)⟩,
   ⟨some 221, (.call { callee := .value (.func 22), args := #[(.tmp 219), (.tmp 220)], argTypes := #[26, 26] }), 4, some (218, true), some (nb + 221)⟩,
 sop nb 222 (.pick (.tmp 218) (.tmp 221) (.const (.bool false))) 4,
 sop nb 223 (.move (.tmp 222)) 4,
   ⟨some 224, (.move (.tmp 19)), 26, some (223, true), some (nb + 224)⟩,
   ⟨some 225, (.buildSlice 26 5 #[(0, (.const (.int .i64 0))), (1, (.const (.int .i64 1))), (2, (.const (.int .i64 0))), (3, (.const (.int .i64 0))), (4, (.const (.int .i64 0)))]), 26, some (223, true), some (nb + 225)⟩,
   ⟨some 226, (.call { callee := .value (.func 22), args := #[(.tmp 224), (.tmp 225)], argTypes := #[26, 26] }), 4, some (223, true), some (nb + 226)⟩,
 sop nb 227 (.pick (.tmp 223) (.tmp 226) (.const (.bool false))) 4,
 sop nb 228 (.move (.tmp 227)) 4,
   ⟨some 229, (.move (.tmp 21)), 25, some (228, true), some (nb + 229)⟩,
   ⟨some 230, (.buildSlice 26 2 #[(0, (.const (.int .i64 0))), (1, (.const (.int .i64 1)))]), 26, some (228, true), some (nb + 230)⟩,
   ⟨some 231, (.buildSlice 26 2 #[(0, (.const (.int .i64 1))), (1, (.const (.int .i64 2)))]), 26, some (228, true), some (nb + 231)⟩,
   ⟨some 232, (.buildSlice 25 2 #[(0, (.tmp 230)), (1, (.tmp 231))]), 25, some (228, true), some (nb + 232)⟩,
   ⟨some 233, (.call { callee := .value (.func 21), args := #[(.tmp 229), (.tmp 232)], argTypes := #[25, 25] }), 4, some (228, true), some (nb + 233)⟩,
 sop nb 234 (.pick (.tmp 228) (.tmp 233) (.const (.bool false))) 4,
 sop nb 235 (.move (.tmp 234)) 4,
   ⟨some 236, (.move (.tmp 23)), 26, some (235, true), some (nb + 236)⟩,
   ⟨some 237, (.buildSlice 26 1 #[(0, (.const (.int .i64 1)))]), 26, some (235, true), some (nb + 237)⟩,
   ⟨some 238, (.call { callee := .value (.func 22), args := #[(.tmp 236), (.tmp 237)], argTypes := #[26, 26] }), 4, some (235, true), some (nb + 238)⟩,
 sop nb 239 (.pick (.tmp 235) (.tmp 238) (.const (.bool false))) 4,
 sop nb 240 (.move (.tmp 239)) 4,
   ⟨some 241, (.move (.tmp 24)), 26, some (240, true), some (nb + 241)⟩,
   ⟨some 242, (.buildSlice 26 3 #[(0, (.const (.int .i64 0))), (1, (.const (.int .i64 1))), (2, (.const (.int .i64 2)))]), 26, some (240, true), some (nb + 242)⟩,
   ⟨some 243, (.call { callee := .value (.func 22), args := #[(.tmp 241), (.tmp 242)], argTypes := #[26, 26] }), 4, some (240, true), some (nb + 243)⟩,
 sop nb 244 (.pick (.tmp 240) (.tmp 243) (.const (.bool false))) 4,
 sop nb 0 (.assign (.tmp 244)) 4]) (
 .ret)))))))))))))))
@[go_sem] theorem rs14 : Go.Proofs.Try.f14.results.toList = [.tmp 0] := by kernel_rfl
theorem en14 : Enters Q 14 := enters_of Go.Proofs.Try.func14 rfl (by kernel_rfl)
theorem k14 (nb : Nat) : sk nb Go.Proofs.Try.f14.ntmps (Go.Proofs.Try.f14.body.getD .skip) = some (c14 nb) := by kernel_rfl
/-- smalto/smaltolaw07.ints -/
noncomputable def c17 (nb : Nat) : SC :=
 .seq (
 .ops [sop nb 2 (.assign (.const (.slice none 0 0))) 26]) (
 .seq (
 .ops [sop nb 3 (.buildSlice 26 0 #[]) 26,
 sop nb 4 (.move (.tmp 0)) 26,
 sop nb 5 (.call { callee := .builtin .append, args := #[(.tmp 3), (.tmp 4)], argTypes := #[26, 26] }) 26,
 sop nb 2 (.assign (.tmp 5)) 26]) (
 .ret))
@[go_sem] theorem rs17 : Go.Proofs.Try.f17.results.toList = [.tmp 2] := by kernel_rfl
theorem en17 : Enters Q 17 := enters_of Go.Proofs.Try.func17 rfl (by kernel_rfl)
theorem k17 (nb : Nat) : sk nb Go.Proofs.Try.f17.ntmps (Go.Proofs.Try.f17.body.getD .skip) = some (c17 nb) := by kernel_rfl
/-- smalto/stencil.Meant -/
noncomputable def c18 (nb : Nat) : SC :=
 .seq (
 .ops [sop nb 4 (.box 24 (.tmp 0)) 0,
 sop nb 8 (.assign (.const (.slice none 0 0))) 26,
 sop nb 9 (.assign (.const (.int .i64 0))) 34]) (
 .seq (
 .ops [sop nb 13 (.load 24 (.tmp 4)) 24,
 sop nb 14 (.move (.tmp 1)) 25,
 sop nb 15 (.move (.tmp 2)) 26,
 sop nb 16 (.move (.tmp 3)) 3,
 sop nb 17 (.call { callee := .value (.func 60), args := #[(.tmp 13), (.tmp 14), (.tmp 15), (.tmp 16)], argTypes := #[24, 25, 26, 3] }) 111,
 sop nb 12 (.move (.tmp 17)) 111,
 sop nb 18 (.extract (.tmp 12) 0) 110,
 sop nb 19 (.extract (.tmp 12) 1) 34,
 sop nb 10 (.alloc 110) 0,
   ⟨none, (.store 110 (.tmp 10) (.tmp 18)), 0, none, none⟩,
 sop nb 11 (.assign (.tmp 19)) 34]) (
 .seq (
 .seq (
 .ops [sop nb 20 (.move (.tmp 11)) 34,
 sop nb 21 (.binOp .neq 34 (.tmp 20) (.const (.int .i64 0)) 34) 4]) (
 .cond (.tmp 21) (
  .seq (
  .ops [sop nb 22 (.move (.tmp 11)) 34,
    sop nb 8 (.assign (.const (.slice none 0 0))) 26,
    sop nb 9 (.assign (.tmp 22)) 34]) (
  .ret)) (
  .skip))) (
 .seq (
 .ops [sop nb 23 (.fieldAddr 110 (.tmp 10) 4) 0,
 sop nb 24 (.load 26 (.tmp 23)) 26,
 sop nb 8 (.assign (.tmp 24)) 26,
 sop nb 9 (.assign (.const (.int .i64 0))) 34]) (
 .ret))))
@[go_sem] theorem rs18 : Go.Proofs.Try.f18.results.toList = [.tmp 8, .tmp 9] := by kernel_rfl
theorem en18 : Enters Q 18 := enters_of Go.Proofs.Try.func18 rfl (by kernel_rfl)
theorem k18 (nb : Nat) : sk nb Go.Proofs.Try.f18.ntmps (Go.Proofs.Try.f18.body.getD .skip) = some (c18 nb) := by kernel_rfl
/-- smalto/stencil.Ask -/
noncomputable def c19 (nb : Nat) : SC :=
 .seq (
 .ops [sop nb 4 (.box 24 (.tmp 0)) 0,
 sop nb 8 (.assign (.const (.int .i64 0))) 3,
 sop nb 9 (.assign (.const (.int .i64 0))) 3,
 sop nb 10 (.assign (.const (.int .i64 0))) 34]) (
 .seq (
 .ops [sop nb 15 (.load 24 (.tmp 4)) 24,
 sop nb 16 (.move (.tmp 1)) 25,
 sop nb 17 (.move (.tmp 2)) 26,
 sop nb 18 (.move (.tmp 3)) 3,
 sop nb 19 (.call { callee := .value (.func 60), args := #[(.tmp 15), (.tmp 16), (.tmp 17), (.tmp 18)], argTypes := #[24, 25, 26, 3] }) 111,
 sop nb 14 (.move (.tmp 19)) 111,
 sop nb 20 (.extract (.tmp 14) 0) 110,
 sop nb 21 (.extract (.tmp 14) 1) 34,
 sop nb 11 (.alloc 110) 0,
   ⟨none, (.store 110 (.tmp 11) (.tmp 20)), 0, none, none⟩,
 sop nb 10 (.assign (.tmp 21)) 34]) (
 .seq (
 .seq (
 .ops [sop nb 22 (.move (.tmp 10)) 34,
 sop nb 23 (.binOp .neq 34 (.tmp 22) (.const (.int .i64 0)) 34) 4]) (
 .cond (.tmp 23) (
  .seq (
  .ops [sop nb 24 (.move (.tmp 10)) 34,
    sop nb 8 (.assign (.const (.int .i64 0))) 3,
    sop nb 9 (.assign (.const (.int .i64 0))) 3,
    sop nb 10 (.assign (.tmp 24)) 34]) (
  .ret)) (
  .skip))) (
 .seq (
 .ops [sop nb 25 (.fieldAddr 110 (.tmp 11) 4) 0,
 sop nb 26 (.load 26 (.tmp 25)) 26,
 sop nb 27 (.call { callee := .builtin .len, args := #[(.tmp 26)], argTypes := #[26] }) 3,
 sop nb 9 (.assign (.tmp 27)) 3]) (
 .seq (
 .seq (
 .ops [sop nb 28 (.move (.tmp 2)) 26,
 sop nb 29 (.call { callee := .builtin .len, args := #[(.tmp 28)], argTypes := #[26] }) 3,
 sop nb 30 (.move (.const (.int .i64 0))) 3]) (
 .block 0 (
  .loop (
   .seq (
   .ops [sop nb 31 (.binOp .lss 3 (.tmp 30) (.tmp 29) 3) 0]) (
   .seq (
   .cond (.tmp 31) (
    .skip) (
    .exit 0)) (
   .seq (
   .block 1 (
    .seq (
    .ops [sop nb 32 (.move (.tmp 30)) 3,
      sop nb 12 (.assign (.tmp 32)) 3]) (
    .seq (
    .ops [sop nb 33 (.load 110 (.tmp 11)) 110,
      sop nb 34 (.move (.tmp 12)) 3,
      sop nb 35 (.call { callee := .value (.func 61), args := #[(.tmp 33), (.tmp 34)], argTypes := #[110, 3] }) 3,
      sop nb 13 (.assign (.tmp 35)) 3]) (
    .seq (
    .ops [sop nb 36 (.move (.tmp 13)) 3,
      sop nb 37 (.move (.tmp 9)) 3,
      sop nb 38 (.binOp .lss 3 (.tmp 36) (.tmp 37) 3) 4]) (
    .cond (.tmp 38) (
     .ops [sop nb 39 (.move (.tmp 12)) 3,
       sop nb 40 (.move (.tmp 13)) 3,
       sop nb 8 (.assign (.tmp 39)) 3,
       sop nb 9 (.assign (.tmp 40)) 3]) (
     .skip)))))) (
   .ops [sop nb 41 (.binOp .add 3 (.tmp 30) (.const (.int .i64 1)) 3) 3,
     sop nb 30 (.move (.tmp 41)) 3]))))))) (
 .seq (
 .seq (
 .ops [sop nb 42 (.move (.tmp 9)) 3,
 sop nb 43 (.fieldAddr 110 (.tmp 11) 4) 0,
 sop nb 44 (.load 26 (.tmp 43)) 26,
 sop nb 45 (.call { callee := .builtin .len, args := #[(.tmp 44)], argTypes := #[26] }) 3,
 sop nb 46 (.binOp .eql 3 (.tmp 42) (.tmp 45) 3) 4]) (
 .cond (.tmp 46) (
  .seq (
  .ops [sop nb 8 (.assign (.const (.int .i64 0))) 3,
    sop nb 9 (.assign (.const (.int .i64 0))) 3,
    sop nb 10 (.assign (.const (.int .i64 6))) 34]) (
  .ret)) (
  .skip))) (
 .seq (
 .ops [sop nb 47 (.move (.tmp 8)) 3,
 sop nb 48 (.move (.tmp 9)) 3,
 sop nb 8 (.assign (.tmp 47)) 3,
 sop nb 9 (.assign (.tmp 48)) 3,
 sop nb 10 (.assign (.const (.int .i64 0))) 34]) (
 .ret)))))))
@[go_sem] theorem rs19 : Go.Proofs.Try.f19.results.toList = [.tmp 8, .tmp 9, .tmp 10] := by kernel_rfl
theorem en19 : Enters Q 19 := enters_of Go.Proofs.Try.func19 rfl (by kernel_rfl)
theorem k19 (nb : Nat) : sk nb Go.Proofs.Try.f19.ntmps (Go.Proofs.Try.f19.body.getD .skip) = some (c19 nb) := by kernel_rfl
/-- smalto/smaltoref07.Lists -/
noncomputable def c21 (nb : Nat) : SC :=
 .seq (
 .ops [sop nb 4 (.assign (.const (.bool false))) 4]) (
 .seq (
 .seq (
 .ops [sop nb 6 (.move (.tmp 0)) 25,
 sop nb 7 (.call { callee := .builtin .len, args := #[(.tmp 6)], argTypes := #[25] }) 3,
 sop nb 8 (.move (.tmp 1)) 25,
 sop nb 9 (.call { callee := .builtin .len, args := #[(.tmp 8)], argTypes := #[25] }) 3,
 sop nb 10 (.binOp .neq 3 (.tmp 7) (.tmp 9) 3) 4]) (
 .cond (.tmp 10) (
  .seq (
  .ops [sop nb 4 (.assign (.const (.bool false))) 4]) (
  .ret)) (
  .skip))) (
 .seq (
 .seq (
 .ops [sop nb 5 (.assign (.const (.int .i64 0))) 3]) (
 .block 0 (
  .loop (
   .seq (
   .seq (
   .ops [sop nb 11 (.move (.tmp 5)) 3,
     sop nb 12 (.move (.tmp 0)) 25,
     sop nb 13 (.call { callee := .builtin .len, args := #[(.tmp 12)], argTypes := #[25] }) 3,
     sop nb 14 (.binOp .lss 3 (.tmp 11) (.tmp 13) 3) 4]) (
   .cond (.tmp 14) (
    .skip) (
    .exit 0))) (
   .seq (
   .block 1 (
    .seq (
    .ops [sop nb 17 (.move (.tmp 0)) 25,
      sop nb 18 (.move (.tmp 5)) 3,
      sop nb 19 (.indexAddr 25 (.tmp 17) (.tmp 18)) 0,
      sop nb 20 (.load 26 (.tmp 19)) 26,
      sop nb 21 (.move (.tmp 1)) 25,
      sop nb 22 (.move (.tmp 5)) 3,
      sop nb 23 (.indexAddr 25 (.tmp 21) (.tmp 22)) 0,
      sop nb 24 (.load 26 (.tmp 23)) 26,
      sop nb 25 (.call { callee := .value (.func 22), args := #[(.tmp 20), (.tmp 24)], argTypes := #[26, 26] }) 4,
      sop nb 26 (.unOp .not 4 (.tmp 25)) 4]) (
    .cond (.tmp 26) (
     .seq (
     .ops [sop nb 4 (.assign (.const (.bool false))) 4]) (
     .ret)) (
     .skip)))) (
   .ops [sop nb 15 (.move (.tmp 5)) 3,
     sop nb 16 (.binOp .add 3 (.tmp 15) (.const (.int .i64 1)) 3) 3,
     sop nb 5 (.assign (.tmp 16)) 3])))))) (
 .seq (
 .ops [sop nb 4 (.assign (.const (.bool true))) 4]) (
 .ret))))
@[go_sem] theorem rs21 : Go.Proofs.Try.f21.results.toList = [.tmp 4] := by kernel_rfl
theorem en21 : Enters Q 21 := enters_of Go.Proofs.Try.func21 rfl (by kernel_rfl)
theorem k21 (nb : Nat) : sk nb Go.Proofs.Try.f21.ntmps (Go.Proofs.Try.f21.body.getD .skip) = some (c21 nb) := by kernel_rfl
/-- smalto/smaltoref07.Ints -/
noncomputable def c22 (nb : Nat) : SC :=
 .seq (
 .ops [sop nb 4 (.assign (.const (.bool false))) 4]) (
 .seq (
 .ops [sop nb 5 (.move (.tmp 0)) 26,
 sop nb 6 (.move (.tmp 1)) 26,
 sop nb 7 (.call { callee := .value (.func 62), args := #[(.tmp 5), (.tmp 6)], argTypes := #[26, 26] }) 3,
 sop nb 8 (.binOp .eql 3 (.tmp 7) (.const (.int .i64 0)) 3) 4,
 sop nb 4 (.assign (.tmp 8)) 4]) (
 .ret))
@[go_sem] theorem rs22 : Go.Proofs.Try.f22.results.toList = [.tmp 4] := by kernel_rfl
theorem en22 : Enters Q 22 := enters_of Go.Proofs.Try.func22 rfl (by kernel_rfl)
theorem k22 (nb : Nat) : sk nb Go.Proofs.Try.f22.ntmps (Go.Proofs.Try.f22.body.getD .skip) = some (c22 nb) := by kernel_rfl
/-- smalto/stencil.Lay -/
noncomputable def c29 (nb : Nat) : SC :=
 .seq (
 .ops [sop nb 3 (.box 24 (.tmp 0)) 0,
 sop nb 6 (.assign (.const (.slice none 0 0))) 26,
 sop nb 7 (.assign (.const (.int .i64 0))) 34]) (
 .seq (
 .ops [sop nb 14 (.load 24 (.tmp 3)) 24,
 sop nb 15 (.move (.tmp 1)) 26,
 sop nb 16 (.move (.tmp 2)) 26,
 sop nb 17 (.buildSlice 25 1 #[(0, (.tmp 16))]) 25,
 sop nb 18 (.call { callee := .value (.func 64), args := #[(.tmp 14), (.tmp 15), (.tmp 17)], argTypes := #[24, 26, 25] }) 117,
 sop nb 13 (.move (.tmp 18)) 117,
 sop nb 19 (.extract (.tmp 13) 0) 108,
 sop nb 20 (.extract (.tmp 13) 1) 34,
 sop nb 8 (.assign (.tmp 19)) 108,
 sop nb 7 (.assign (.tmp 20)) 34]) (
 .seq (
 .block 0 (
  .seq (
  .ops [sop nb 22 (.move (.tmp 7)) 34,
    sop nb 23 (.binOp .neq 34 (.tmp 22) (.const (.int .i64 0)) 34) 4,
    sop nb 21 (.assign (.tmp 23)) 4]) (
  .cond (.tmp 21) (
   .seq (
   .ops [sop nb 24 (.move (.tmp 7)) 34,
     sop nb 6 (.assign (.const (.slice none 0 0))) 26,
     sop nb 7 (.assign (.tmp 24)) 34]) (
   .ret)) (
   .seq (
   .ops [sop nb 26 (.move (.tmp 8)) 108,
     sop nb 27 (.move (.tmp 1)) 26,
     sop nb 28 (.move (.tmp 2)) 26,
     sop nb 29 (.call { callee := .value (.func 65), args := #[(.tmp 26), (.tmp 27), (.tmp 28)], argTypes := #[108, 26, 26] }) 26,
     sop nb 30 (.call { callee := .builtin .len, args := #[(.tmp 29)], argTypes := #[26] }) 3,
     sop nb 31 (.binOp .gtr 3 (.tmp 30) (.const (.int .i64 0)) 3) 4,
     sop nb 25 (.assign (.tmp 31)) 4]) (
   .cond (.tmp 25) (
    .seq (
    .ops [sop nb 6 (.assign (.const (.slice none 0 0))) 26,
      sop nb 7 (.assign (.const (.int .i64 7))) 34]) (
    .ret)) (
    .skip)))))) (
 .seq (
 .ops [sop nb 32 (.move (.tmp 1)) 26,
 sop nb 33 (.call { callee := .value (.func 66), args := #[(.tmp 32)], argTypes := #[26] }) 26,
 sop nb 9 (.assign (.tmp 33)) 26]) (
 .seq (
 .seq (
 .ops [sop nb 34 (.move (.tmp 2)) 26,
 sop nb 35 (.call { callee := .builtin .len, args := #[(.tmp 34)], argTypes := #[26] }) 3,
 sop nb 36 (.move (.const (.int .i64 0))) 3]) (
 .block 1 (
  .loop (
   .seq (
   .ops [sop nb 37 (.binOp .lss 3 (.tmp 36) (.tmp 35) 3) 0]) (
   .seq (
   .cond (.tmp 37) (
    .skip) (
    .exit 1)) (
   .seq (
   .block 2 (
    .seq (
    .ops [sop nb 38 (.indexAddr 26 (.tmp 34) (.tmp 36)) 0,
      sop nb 39 (.load 3 (.tmp 38)) 3,
      sop nb 11 (.assign (.tmp 39)) 3]) (
    .seq (
    .ops [sop nb 40 (.move (.tmp 8)) 108,
      sop nb 41 (.move (.tmp 11)) 3,
      sop nb 42 (.call { callee := .value (.func 67), args := #[(.tmp 40), (.tmp 41)], argTypes := #[108, 3] }) 3,
      sop nb 12 (.assign (.tmp 42)) 3]) (
    .seq (
    .seq (
    .ops [sop nb 43 (.move (.tmp 9)) 26,
      sop nb 44 (.move (.tmp 12)) 3,
      sop nb 45 (.indexAddr 26 (.tmp 43) (.tmp 44)) 0,
      sop nb 46 (.load 3 (.tmp 45)) 3,
      sop nb 47 (.binOp .eql 3 (.tmp 46) (.const (.int .i64 0)) 3) 4]) (
    .cond (.tmp 47) (
     .ops [sop nb 48 (.move (.tmp 11)) 3,
       sop nb 49 (.move (.tmp 8)) 108,
       sop nb 50 (.move (.tmp 11)) 3,
       sop nb 51 (.nilCheck (.tmp 49)) 0,
       sop nb 52 (.fieldAddr 123 (.tmp 51) 1) 0,
       sop nb 53 (.indexAddr 120 (.tmp 52) (.tmp 50)) 0,
       sop nb 54 (.load 3 (.tmp 53)) 3,
       sop nb 55 (.call { callee := .builtin .max, args := #[(.tmp 48), (.tmp 54)], argTypes := #[3, 3] }) 3,
       sop nb 12 (.assign (.tmp 55)) 3]) (
     .skip))) (
    .seq (
    .ops [sop nb 56 (.move (.tmp 9)) 26,
      sop nb 57 (.move (.tmp 12)) 3,
      sop nb 58 (.indexAddr 26 (.tmp 56) (.tmp 57)) 0,
      sop nb 59 (.load 3 (.tmp 58)) 3,
      sop nb 60 (.binOp .sub 3 (.tmp 59) (.const (.int .i64 1)) 3) 3,
      sop nb 61 (.indexAddr 26 (.tmp 56) (.tmp 57)) 0,
      ⟨none, (.store 3 (.tmp 61) (.tmp 60)), 0, none, none⟩]) (
    .ops [sop nb 62 (.move (.tmp 6)) 26,
      sop nb 63 (.move (.tmp 12)) 3,
      sop nb 64 (.buildSlice 26 1 #[(0, (.tmp 63))]) 26,
      sop nb 65 (.call { callee := .builtin .append, args := #[(.tmp 62), (.tmp 64)], argTypes := #[26, 26] }) 26,
      sop nb 6 (.assign (.tmp 65)) 26])))))) (
   .ops [sop nb 66 (.binOp .add 3 (.tmp 36) (.const (.int .i64 1)) 3) 3,
     sop nb 36 (.move (.tmp 66)) 3]))))))) (
 .seq (
 .ops [sop nb 67 (.move (.tmp 6)) 26,
 sop nb 6 (.assign (.tmp 67)) 26,
 sop nb 7 (.assign (.const (.int .i64 0))) 34]) (
 .ret))))))
@[go_sem] theorem rs29 : Go.Proofs.Try.f29.results.toList = [.tmp 6, .tmp 7] := by kernel_rfl
theorem en29 : Enters Q 29 := enters_of Go.Proofs.Try.func29 rfl (by kernel_rfl)
theorem k29 (nb : Nat) : sk nb Go.Proofs.Try.f29.ntmps (Go.Proofs.Try.f29.body.getD .skip) = some (c29 nb) := by kernel_rfl
/-- smalto/stencil.Lack -/
noncomputable def c30 (nb : Nat) : SC :=
 .seq (
 .ops [sop nb 3 (.box 24 (.tmp 0)) 0,
 sop nb 6 (.assign (.const (.slice none 0 0))) 26,
 sop nb 7 (.assign (.const (.int .i64 0))) 34]) (
 .seq (
 .ops [sop nb 12 (.load 24 (.tmp 3)) 24,
 sop nb 13 (.move (.tmp 1)) 26,
 sop nb 14 (.move (.tmp 2)) 26,
 sop nb 15 (.buildSlice 25 1 #[(0, (.tmp 14))]) 25,
 sop nb 16 (.call { callee := .value (.func 64), args := #[(.tmp 12), (.tmp 13), (.tmp 15)], argTypes := #[24, 26, 25] }) 117,
 sop nb 11 (.move (.tmp 16)) 117,
 sop nb 17 (.extract (.tmp 11) 0) 108,
 sop nb 18 (.extract (.tmp 11) 1) 34,
 sop nb 8 (.assign (.tmp 17)) 108,
 sop nb 9 (.assign (.tmp 18)) 34]) (
 .seq (
 .seq (
 .ops [sop nb 19 (.move (.tmp 9)) 34,
 sop nb 20 (.binOp .neq 34 (.tmp 19) (.const (.int .i64 0)) 34) 4]) (
 .cond (.tmp 20) (
  .seq (
  .ops [sop nb 21 (.move (.tmp 9)) 34,
    sop nb 6 (.assign (.const (.slice none 0 0))) 26,
    sop nb 7 (.assign (.tmp 21)) 34]) (
  .ret)) (
  .skip))) (
 .seq (
 .ops [sop nb 22 (.move (.tmp 8)) 108,
 sop nb 23 (.move (.tmp 1)) 26,
 sop nb 24 (.move (.tmp 2)) 26,
 sop nb 25 (.call { callee := .value (.func 65), args := #[(.tmp 22), (.tmp 23), (.tmp 24)], argTypes := #[108, 26, 26] }) 26,
 sop nb 10 (.assign (.tmp 25)) 26]) (
 .seq (
 .seq (
 .ops [sop nb 26 (.move (.tmp 10)) 26,
 sop nb 27 (.binOp .eql 26 (.tmp 26) (.const (.slice none 0 0)) 26) 4]) (
 .cond (.tmp 27) (
  .seq (
  .ops [sop nb 6 (.assign (.const (.slice none 0 0))) 26,
    sop nb 7 (.assign (.const (.int .i64 6))) 34]) (
  .ret)) (
  .skip))) (
 .seq (
 .ops [sop nb 28 (.move (.tmp 10)) 26,
 sop nb 6 (.assign (.tmp 28)) 26,
 sop nb 7 (.assign (.const (.int .i64 0))) 34]) (
 .ret))))))
@[go_sem] theorem rs30 : Go.Proofs.Try.f30.results.toList = [.tmp 6, .tmp 7] := by kernel_rfl
theorem en30 : Enters Q 30 := enters_of Go.Proofs.Try.func30 rfl (by kernel_rfl)
theorem k30 (nb : Nat) : sk nb Go.Proofs.Try.f30.ntmps (Go.Proofs.Try.f30.body.getD .skip) = some (c30 nb) := by kernel_rfl
/-- smalto/stencil.Cut -/
noncomputable def c35 (nb : Nat) : SC :=
 .seq (
 .ops [sop nb 3 (.box 24 (.tmp 0)) 0,
 sop nb 6 (.assign (.const (.slice none 0 0))) 26,
 sop nb 7 (.assign (.const (.int .i64 0))) 34]) (
 .seq (
 .ops [sop nb 18 (.load 24 (.tmp 3)) 24,
 sop nb 19 (.move (.tmp 1)) 26,
 sop nb 20 (.move (.tmp 2)) 25,
 sop nb 21 (.call { callee := .value (.func 64), args := #[(.tmp 18), (.tmp 19), (.tmp 20)], argTypes := #[24, 26, 25] }) 117,
 sop nb 17 (.move (.tmp 21)) 117,
 sop nb 22 (.extract (.tmp 17) 0) 108,
 sop nb 23 (.extract (.tmp 17) 1) 34,
 sop nb 8 (.assign (.tmp 22)) 108,
 sop nb 9 (.assign (.tmp 23)) 34]) (
 .seq (
 .seq (
 .ops [sop nb 24 (.move (.tmp 9)) 34,
 sop nb 25 (.binOp .neq 34 (.tmp 24) (.const (.int .i64 0)) 34) 4]) (
 .cond (.tmp 25) (
  .seq (
  .ops [sop nb 26 (.move (.tmp 9)) 34,
    sop nb 6 (.assign (.const (.slice none 0 0))) 26,
    sop nb 7 (.assign (.tmp 26)) 34]) (
  .ret)) (
  .skip))) (
 .seq (
 .opsD [sop nb 27 (.move (.tmp 8)) 108,
 sop nb 28 (.move (.tmp 1)) 26,
 sop nb 29 (.call { callee := .value (.func 70), args := #[(.tmp 27), (.tmp 28)], argTypes := #[108, 26] }) 125,
 sop nb 30 (.fieldAddr 24 (.tmp 3) 0) 0,
 sop nb 31 (.load 3 (.tmp 30)) 3,
 sop nb 32 (.makeSlice 26 (.tmp 31) (.tmp 31)) 26,
 sop nb 10 (.alloc 125) 0,
   ⟨none, (.store 125 (.tmp 10) (.tmp 29)), 0, none, none⟩,
 sop nb 11 (.assign (.tmp 32)) 26] [(2, 4), (2, 5), (2, 6), (4, 6), (5, 6), (4, 7), (5, 7)]) (
 .seq (
 .seq (
 .ops [sop nb 33 (.move (.tmp 2)) 25,
 sop nb 34 (.call { callee := .builtin .len, args := #[(.tmp 33)], argTypes := #[25] }) 3,
 sop nb 35 (.move (.const (.int .i64 0))) 3]) (
 .block 0 (
  .loop (
   .seq (
   .ops [sop nb 36 (.binOp .lss 3 (.tmp 35) (.tmp 34) 3) 0]) (
   .seq (
   .cond (.tmp 36) (
    .skip) (
    .exit 0)) (
   .seq (
   .block 1 (
    .seq (
    .ops [sop nb 37 (.indexAddr 25 (.tmp 33) (.tmp 35)) 0,
      sop nb 38 (.load 26 (.tmp 37)) 26,
      sop nb 13 (.assign (.tmp 38)) 26]) (
    .seq (
    .ops [sop nb 39 (.move (.tmp 8)) 108,
      sop nb 40 (.move (.tmp 13)) 26,
      sop nb 41 (.call { callee := .value (.func 71), args := #[(.tmp 39), (.tmp 40)], argTypes := #[108, 26] }) 125,
      sop nb 42 (.move (.const (.int .i64 0))) 3]) (
    .block 2 (
     .loop (
      .seq (
      .ops [sop nb 43 (.binOp .lss 3 (.tmp 42) (.const (.int .i64 8)) 3) 0]) (
      .seq (
      .cond (.tmp 43) (
       .skip) (
       .exit 2)) (
      .seq (
      .block 3 (
       .seq (
       .ops [sop nb 44 (.move (.tmp 42)) 3,
         sop nb 45 (.index 125 (.tmp 41) (.tmp 42)) 3,
         sop nb 14 (.assign (.tmp 44)) 3,
         sop nb 15 (.assign (.tmp 45)) 3]) (
       .seq (
       .seq (
       .ops [sop nb 46 (.move (.tmp 15)) 3,
         sop nb 47 (.move (.tmp 14)) 3,
         sop nb 48 (.indexAddr 125 (.tmp 10) (.tmp 47)) 0,
         sop nb 49 (.load 3 (.tmp 48)) 3,
         sop nb 50 (.binOp .leq 3 (.tmp 46) (.tmp 49) 3) 4]) (
       .cond (.tmp 50) (
        .exit 3) (
        .skip))) (
       .seq (
       .ops [sop nb 51 (.move (.tmp 14)) 3,
         sop nb 52 (.move (.tmp 8)) 108,
         sop nb 53 (.move (.tmp 14)) 3,
         sop nb 54 (.nilCheck (.tmp 52)) 0,
         sop nb 55 (.fieldAddr 123 (.tmp 54) 1) 0,
         sop nb 56 (.indexAddr 120 (.tmp 55) (.tmp 53)) 0,
         sop nb 57 (.load 3 (.tmp 56)) 3,
         sop nb 58 (.call { callee := .builtin .max, args := #[(.tmp 51), (.tmp 57)], argTypes := #[3, 3] }) 3,
         sop nb 16 (.assign (.tmp 58)) 3]) (
       .ops [sop nb 59 (.move (.tmp 11)) 26,
         sop nb 60 (.move (.tmp 16)) 3,
         sop nb 61 (.move (.tmp 11)) 26,
         sop nb 62 (.move (.tmp 16)) 3,
         sop nb 63 (.indexAddr 26 (.tmp 61) (.tmp 62)) 0,
         sop nb 64 (.load 3 (.tmp 63)) 3,
         sop nb 65 (.move (.tmp 15)) 3,
         sop nb 66 (.move (.tmp 14)) 3,
         sop nb 67 (.indexAddr 125 (.tmp 10) (.tmp 66)) 0,
         sop nb 68 (.load 3 (.tmp 67)) 3,
         sop nb 69 (.binOp .sub 3 (.tmp 65) (.tmp 68) 3) 3,
         sop nb 70 (.call { callee := .builtin .max, args := #[(.tmp 64), (.tmp 69)], argTypes := #[3, 3] }) 3,
         sop nb 71 (.indexAddr 26 (.tmp 59) (.tmp 60)) 0,
         ⟨none, (.store 3 (.tmp 71) (.tmp 70)), 0, none, none⟩]))))) (
      .ops [sop nb 72 (.binOp .add 3 (.tmp 42) (.const (.int .i64 1)) 3) 3,
        sop nb 42 (.move (.tmp 72)) 3]))))))))) (
   .ops [sop nb 73 (.binOp .add 3 (.tmp 35) (.const (.int .i64 1)) 3) 3,
     sop nb 35 (.move (.tmp 73)) 3]))))))) (
 .seq (
 .ops [sop nb 74 (.move (.tmp 11)) 26,
 sop nb 6 (.assign (.tmp 74)) 26,
 sop nb 7 (.assign (.const (.int .i64 0))) 34]) (
 .ret))))))
@[go_sem] theorem rs35 : Go.Proofs.Try.f35.results.toList = [.tmp 6, .tmp 7] := by kernel_rfl
theorem en35 : Enters Q 35 := enters_of Go.Proofs.Try.func35 rfl (by kernel_rfl)
theorem k35 (nb : Nat) : sk nb Go.Proofs.Try.f35.ntmps (Go.Proofs.Try.f35.body.getD .skip) = some (c35 nb) := by kernel_rfl
/-- smalto/stencil.Whose -/
noncomputable def c37 (nb : Nat) : SC :=
 .seq (
 .ops [sop nb 4 (.box 24 (.tmp 0)) 0,
 sop nb 8 (.assign (.const (.slice none 0 0))) 25,
 sop nb 9 (.assign (.const (.int .i64 0))) 34]) (
 .seq (
 .ops [sop nb 14 (.load 24 (.tmp 4)) 24,
 sop nb 15 (.move (.tmp 1)) 25,
 sop nb 16 (.move (.tmp 2)) 26,
 sop nb 17 (.move (.tmp 3)) 3,
 sop nb 18 (.call { callee := .value (.func 73), args := #[(.tmp 14), (.tmp 15), (.tmp 16), (.tmp 17)], argTypes := #[24, 25, 26, 3] }) 130,
 sop nb 13 (.move (.tmp 18)) 130,
 sop nb 19 (.extract (.tmp 13) 0) 129,
 sop nb 20 (.extract (.tmp 13) 1) 34,
 sop nb 10 (.alloc 129) 0,
   ⟨none, (.store 129 (.tmp 10) (.tmp 19)), 0, none, none⟩,
 sop nb 11 (.assign (.tmp 20)) 34]) (
 .seq (
 .seq (
 .ops [sop nb 21 (.move (.tmp 11)) 34,
 sop nb 22 (.binOp .neq 34 (.tmp 21) (.const (.int .i64 0)) 34) 4]) (
 .cond (.tmp 22) (
  .seq (
  .ops [sop nb 23 (.move (.tmp 11)) 34,
    sop nb 8 (.assign (.const (.slice none 0 0))) 25,
    sop nb 9 (.assign (.tmp 23)) 34]) (
  .ret)) (
  .skip))) (
 .seq (
 .ops [sop nb 24 (.load 129 (.tmp 10)) 129,
 sop nb 25 (.makeFunc (.func 75) #[(.tmp 24)] #[]) 133,
 sop nb 26 (.call { callee := .value (.func 74), args := #[(.tmp 25)], argTypes := #[155] }) 25,
 sop nb 12 (.assign (.tmp 26)) 25]) (
 .seq (
 .seq (
 .ops [sop nb 27 (.move (.tmp 12)) 25,
 sop nb 28 (.binOp .eql 25 (.tmp 27) (.const (.slice none 0 0)) 25) 4]) (
 .cond (.tmp 28) (
  .seq (
  .ops [sop nb 8 (.assign (.const (.slice none 0 0))) 25,
    sop nb 9 (.assign (.const (.int .i64 7))) 34]) (
  .ret)) (
  .skip))) (
 .seq (
 .ops [sop nb 29 (.move (.tmp 12)) 25,
 sop nb 8 (.assign (.tmp 29)) 25,
 sop nb 9 (.assign (.const (.int .i64 0))) 34]) (
 .ret))))))
@[go_sem] theorem rs37 : Go.Proofs.Try.f37.results.toList = [.tmp 8, .tmp 9] := by kernel_rfl
theorem en37 : Enters Q 37 := enters_of Go.Proofs.Try.func37 rfl (by kernel_rfl)
theorem k37 (nb : Nat) : sk nb Go.Proofs.Try.f37.ntmps (Go.Proofs.Try.f37.body.getD .skip) = some (c37 nb) := by kernel_rfl
/-- smalto/stencil.Mixed -/
noncomputable def c38 (nb : Nat) : SC :=
 .seq (
 .ops [sop nb 4 (.box 24 (.tmp 0)) 0,
 sop nb 8 (.assign (.const (.slice none 0 0))) 26,
 sop nb 9 (.assign (.const (.slice none 0 0))) 26,
 sop nb 10 (.assign (.const (.int .i64 0))) 34]) (
 .seq (
 .ops [sop nb 20 (.load 24 (.tmp 4)) 24,
 sop nb 21 (.move (.tmp 1)) 25,
 sop nb 22 (.move (.tmp 2)) 26,
 sop nb 23 (.move (.tmp 3)) 3,
 sop nb 24 (.call { callee := .value (.func 37), args := #[(.tmp 20), (.tmp 21), (.tmp 22), (.tmp 23)], argTypes := #[24, 25, 26, 3] }) 60,
 sop nb 19 (.move (.tmp 24)) 60,
 sop nb 25 (.extract (.tmp 19) 0) 25,
 sop nb 26 (.extract (.tmp 19) 1) 34,
 sop nb 11 (.assign (.tmp 25)) 25,
 sop nb 10 (.assign (.tmp 26)) 34]) (
 .seq (
 .seq (
 .ops [sop nb 27 (.move (.tmp 10)) 34,
 sop nb 28 (.binOp .neq 34 (.tmp 27) (.const (.int .i64 0)) 34) 4]) (
 .cond (.tmp 28) (
  .seq (
  .ops [sop nb 29 (.move (.tmp 10)) 34,
    sop nb 8 (.assign (.const (.slice none 0 0))) 26,
    sop nb 9 (.assign (.const (.slice none 0 0))) 26,
    sop nb 10 (.assign (.tmp 29)) 34]) (
  .ret)) (
  .skip))) (
 .seq (
 .ops [sop nb 12 (.alloc 88) 0]) (
 .seq (
 .seq (
 .ops [sop nb 30 (.move (.tmp 11)) 25,
 sop nb 31 (.call { callee := .builtin .len, args := #[(.tmp 30)], argTypes := #[25] }) 3,
 sop nb 32 (.move (.const (.int .i64 0))) 3]) (
 .block 0 (
  .loop (
   .seq (
   .ops [sop nb 33 (.binOp .lss 3 (.tmp 32) (.tmp 31) 3) 0]) (
   .seq (
   .cond (.tmp 33) (
    .skip) (
    .exit 0)) (
   .seq (
   .block 1 (
    .seq (
    .ops [sop nb 34 (.indexAddr 25 (.tmp 30) (.tmp 32)) 0,
      sop nb 35 (.load 26 (.tmp 34)) 26,
      sop nb 14 (.assign (.tmp 35)) 26]) (
    .seq (
    .ops [sop nb 36 (.move (.tmp 14)) 26,
      sop nb 37 (.call { callee := .builtin .len, args := #[(.tmp 36)], argTypes := #[26] }) 3,
      sop nb 38 (.move (.const (.int .i64 0))) 3]) (
    .block 2 (
     .loop (
      .seq (
      .ops [sop nb 39 (.binOp .lss 3 (.tmp 38) (.tmp 37) 3) 0]) (
      .seq (
      .cond (.tmp 39) (
       .skip) (
       .exit 2)) (
      .seq (
      .block 3 (
       .seq (
       .ops [sop nb 40 (.indexAddr 26 (.tmp 36) (.tmp 38)) 0,
         sop nb 41 (.load 3 (.tmp 40)) 3,
         sop nb 16 (.assign (.tmp 41)) 3]) (
       .ops [sop nb 42 (.move (.tmp 16)) 3,
         sop nb 43 (.indexAddr 88 (.tmp 12) (.tmp 42)) 0,
         sop nb 44 (.load 3 (.tmp 43)) 3,
         sop nb 45 (.binOp .add 3 (.tmp 44) (.const (.int .i64 1)) 3) 3,
         sop nb 46 (.indexAddr 88 (.tmp 12) (.tmp 42)) 0,
         ⟨none, (.store 3 (.tmp 46) (.tmp 45)), 0, none, none⟩]))) (
      .ops [sop nb 47 (.binOp .add 3 (.tmp 38) (.const (.int .i64 1)) 3) 3,
        sop nb 38 (.move (.tmp 47)) 3]))))))))) (
   .ops [sop nb 48 (.binOp .add 3 (.tmp 32) (.const (.int .i64 1)) 3) 3,
     sop nb 32 (.move (.tmp 48)) 3]))))))) (
 .seq (
 .seq (
 .ops [sop nb 49 (.load 88 (.tmp 12)) 88,
 sop nb 50 (.move (.const (.int .i64 0))) 3]) (
 .block 4 (
  .loop (
   .seq (
   .ops [sop nb 51 (.binOp .lss 3 (.tmp 50) (.const (.int .i64 4)) 3) 0]) (
   .seq (
   .cond (.tmp 51) (
    .skip) (
    .exit 4)) (
   .seq (
   .block 5 (
    .seq (
    .ops [sop nb 52 (.move (.tmp 50)) 3,
      sop nb 53 (.index 88 (.tmp 49) (.tmp 50)) 3,
      sop nb 17 (.assign (.tmp 52)) 3,
      sop nb 18 (.assign (.tmp 53)) 3]) (
    .seq (
    .ops [sop nb 54 (.move (.tmp 18)) 3]) (
    .block 6 (
     .seq (
     .block 8 (
      .seq (
      .block 7 (
       .seq (
       .seq (
       .ops [sop nb 56 (.move (.tmp 11)) 25,
         sop nb 57 (.call { callee := .builtin .len, args := #[(.tmp 56)], argTypes := #[25] }) 3,
         sop nb 58 (.binOp .eql 3 (.tmp 54) (.tmp 57) 3) 4,
         sop nb 55 (.assign (.tmp 58)) 4]) (
       .cond (.tmp 55) (
        .exit 7) (
        .skip))) (
       .exit 8))) (
      .ops [sop nb 59 (.move (.tmp 8)) 26,
        sop nb 60 (.move (.tmp 17)) 3,
        sop nb 61 (.buildSlice 26 1 #[(0, (.tmp 60))]) 26,
        sop nb 62 (.call { callee := .builtin .append, args := #[(.tmp 59), (.tmp 61)], argTypes := #[26, 26] }) 26,
        sop nb 8 (.assign (.tmp 62)) 26]))) (
     .seq (
     .seq (
     .ops [sop nb 63 (.move (.tmp 18)) 3,
       sop nb 64 (.binOp .gtr 3 (.tmp 63) (.const (.int .i64 0)) 3) 4]) (
     .cond (.tmp 64) (
      .ops [sop nb 65 (.move (.tmp 9)) 26,
        sop nb 66 (.move (.tmp 17)) 3,
        sop nb 67 (.buildSlice 26 1 #[(0, (.tmp 66))]) 26,
        sop nb 68 (.call { callee := .builtin .append, args := #[(.tmp 65), (.tmp 67)], argTypes := #[26, 26] }) 26,
        sop nb 9 (.assign (.tmp 68)) 26]) (
      .skip))) (
     .exit 6))))))) (
   .ops [sop nb 69 (.binOp .add 3 (.tmp 50) (.const (.int .i64 1)) 3) 3,
     sop nb 50 (.move (.tmp 69)) 3]))))))) (
 .seq (
 .ops [sop nb 70 (.move (.tmp 8)) 26,
 sop nb 71 (.move (.tmp 9)) 26,
 sop nb 8 (.assign (.tmp 70)) 26,
 sop nb 9 (.assign (.tmp 71)) 26,
 sop nb 10 (.assign (.const (.int .i64 0))) 34]) (
 .ret)))))))
@[go_sem] theorem rs38 : Go.Proofs.Try.f38.results.toList = [.tmp 8, .tmp 9, .tmp 10] := by kernel_rfl
theorem en38 : Enters Q 38 := enters_of Go.Proofs.Try.func38 rfl (by kernel_rfl)
theorem k38 (nb : Nat) : sk nb Go.Proofs.Try.f38.ntmps (Go.Proofs.Try.f38.body.getD .skip) = some (c38 nb) := by kernel_rfl
/-- (smalto/smaltolaw07.Type).made -/
noncomputable def c42 (nb : Nat) : SC :=
 .seq (
 .ops [sop nb 1 (.box 71 (.tmp 0)) 0,
 sop nb 2 (.alloc 24) 0]) (
 .seq (
 .ops [sop nb 9 (.fieldAddr 71 (.tmp 1) 0) 0,
 sop nb 10 (.load 5 (.tmp 9)) 5,
 sop nb 11 (.convert 5 3 (.tmp 10)) 3,
 sop nb 12 (.binOp .rem 3 (.tmp 11) (.const (.int .i64 8)) 3) 3,
 sop nb 13 (.binOp .add 3 (.const (.int .i64 1)) (.tmp 12) 3) 3,
 sop nb 14 (.build 24 #[(0, (.tmp 13))]) 24,
 sop nb 15 (.build 134 #[]) 134,
 sop nb 3 (.alloc 24) 0,
 sop nb 4 (.alloc 134) 0,
   ⟨none, (.store 24 (.tmp 3) (.tmp 14)), 0, none, none⟩,
   ⟨none, (.store 134 (.tmp 4) (.tmp 15)), 0, none, none⟩]) (
 .seq (
 .seq (
 .ops [sop nb 5 (.assign (.const (.int .i64 0))) 3]) (
 .block 0 (
  .loop (
   .seq (
   .seq (
   .ops [sop nb 16 (.move (.tmp 5)) 3,
     sop nb 17 (.fieldAddr 71 (.tmp 1) 1) 0,
     sop nb 18 (.load 69 (.tmp 17)) 69,
     sop nb 19 (.call { callee := .builtin .len, args := #[(.tmp 18)], argTypes := #[69] }) 3,
     sop nb 20 (.binOp .lss 3 (.tmp 16) (.tmp 19) 3) 4,
     sop nb 21 (.move (.tmp 20)) 4,
     ⟨some 22, (.move (.tmp 5)), 3, some (21, true), some (nb + 22)⟩,
     ⟨some 23, (.binOp .lss 3 (.tmp 22) (.const (.int .i64 6)) 3), 4, some (21, true), some (nb + 23)⟩,
     sop nb 24 (.pick (.tmp 21) (.tmp 23) (.const (.bool false))) 4]) (
   .cond (.tmp 24) (
    .skip) (
    .exit 0))) (
   .seq (
   .block 1 (
    .seq (
    .opsD [sop nb 27 (.fieldAddr 71 (.tmp 1) 1) 0,
      sop nb 28 (.load 69 (.tmp 27)) 69,
      sop nb 29 (.move (.tmp 5)) 3,
      sop nb 30 (.indexAddr 69 (.tmp 28) (.tmp 29)) 0,
      sop nb 31 (.indexAddr 135 (.tmp 30) (.const (.int .i64 0))) 0,
      sop nb 32 (.load 5 (.tmp 31)) 5,
      sop nb 33 (.convert 5 3 (.tmp 32)) 3,
      sop nb 34 (.fieldAddr 24 (.tmp 3) 0) 0,
      sop nb 35 (.load 3 (.tmp 34)) 3,
      sop nb 36 (.binOp .rem 3 (.tmp 33) (.tmp 35) 3) 3,
      sop nb 37 (.fieldAddr 71 (.tmp 1) 1) 0,
      sop nb 38 (.load 69 (.tmp 37)) 69,
      sop nb 39 (.move (.tmp 5)) 3,
      sop nb 40 (.indexAddr 69 (.tmp 38) (.tmp 39)) 0,
      sop nb 41 (.indexAddr 135 (.tmp 40) (.const (.int .i64 1))) 0,
      sop nb 42 (.load 5 (.tmp 41)) 5,
      sop nb 43 (.convert 5 3 (.tmp 42)) 3,
      sop nb 44 (.fieldAddr 24 (.tmp 3) 0) 0,
      sop nb 45 (.load 3 (.tmp 44)) 3,
      sop nb 46 (.binOp .rem 3 (.tmp 43) (.tmp 45) 3) 3,
      sop nb 47 (.build 115 #[(0, (.tmp 36)), (1, (.tmp 46))]) 115,
      sop nb 6 (.alloc 115) 0,
      ⟨none, (.store 115 (.tmp 6) (.tmp 47)), 0, none, none⟩] [(1, 21), (3, 21), (4, 21), (5, 21), (8, 21), (11, 21), (13, 21), (14, 21), (15, 21), (18, 21)]) (
    .seq (
    .ops [sop nb 48 (.fieldAddr 115 (.tmp 6) 0) 0,
      sop nb 49 (.load 3 (.tmp 48)) 3,
      sop nb 50 (.indexAddr 134 (.tmp 4) (.tmp 49)) 0,
      sop nb 51 (.load 4 (.tmp 50)) 4,
      sop nb 52 (.unOp .not 4 (.tmp 51)) 4,
      sop nb 53 (.move (.tmp 52)) 4,
      ⟨some 54, (.fieldAddr 115 (.tmp 6) 1), 0, some (53, true), some (nb + 54)⟩,
      ⟨some 55, (.load 3 (.tmp 54)), 3, some (53, true), some (nb + 55)⟩,
      ⟨some 56, (.indexAddr 134 (.tmp 4) (.tmp 55)), 0, some (53, true), some (nb + 56)⟩,
      ⟨some 57, (.load 4 (.tmp 56)), 4, some (53, true), some (nb + 57)⟩,
      ⟨some 58, (.unOp .not 4 (.tmp 57)), 4, some (53, true), some (nb + 58)⟩,
      sop nb 59 (.pick (.tmp 53) (.tmp 58) (.const (.bool false))) 4]) (
    .cond (.tmp 59) (
     .seq (
     .ops [sop nb 60 (.fieldAddr 24 (.tmp 3) 1) 0,
       sop nb 61 (.load 22 (.tmp 60)) 22,
       sop nb 62 (.load 115 (.tmp 6)) 115,
       sop nb 63 (.buildSlice 22 1 #[(0, (.tmp 62))]) 22,
       sop nb 64 (.call { callee := .builtin .append, args := #[(.tmp 61), (.tmp 63)], argTypes := #[22, 22] }) 22,
       sop nb 65 (.fieldAddr 24 (.tmp 3) 1) 0,
       ⟨none, (.store 22 (.tmp 65) (.tmp 64)), 0, none, none⟩]) (
     .opsD [sop nb 66 (.fieldAddr 115 (.tmp 6) 0) 0,
       sop nb 67 (.load 3 (.tmp 66)) 3,
       sop nb 68 (.fieldAddr 115 (.tmp 6) 1) 0,
       sop nb 69 (.load 3 (.tmp 68)) 3,
       sop nb 70 (.indexAddr 134 (.tmp 4) (.tmp 67)) 0,
       ⟨none, (.store 4 (.tmp 70) (.const (.bool true))), 0, none, none⟩,
       sop nb 71 (.indexAddr 134 (.tmp 4) (.tmp 69)) 0,
       ⟨none, (.store 4 (.tmp 71) (.const (.bool true))), 0, none, none⟩] [(3, 5)])) (
     .skip))))) (
   .ops [sop nb 25 (.move (.tmp 5)) 3,
     sop nb 26 (.binOp .add 3 (.tmp 25) (.const (.int .i64 1)) 3) 3,
     sop nb 5 (.assign (.tmp 26)) 3])))))) (
 .seq (
 .seq (
 .ops [sop nb 7 (.assign (.const (.int .i64 0))) 3]) (
 .block 2 (
  .loop (
   .seq (
   .seq (
   .ops [sop nb 72 (.move (.tmp 7)) 3,
     sop nb 73 (.fieldAddr 71 (.tmp 1) 2) 0,
     sop nb 74 (.load 69 (.tmp 73)) 69,
     sop nb 75 (.call { callee := .builtin .len, args := #[(.tmp 74)], argTypes := #[69] }) 3,
     sop nb 76 (.binOp .lss 3 (.tmp 72) (.tmp 75) 3) 4,
     sop nb 77 (.move (.tmp 76)) 4,
     ⟨some 78, (.move (.tmp 7)), 3, some (77, true), some (nb + 78)⟩,
     ⟨some 79, (.binOp .lss 3 (.tmp 78) (.const (.int .i64 6)) 3), 4, some (77, true), some (nb + 79)⟩,
     sop nb 80 (.pick (.tmp 77) (.tmp 79) (.const (.bool false))) 4]) (
   .cond (.tmp 80) (
    .skip) (
    .exit 2))) (
   .seq (
   .block 3 (
    .seq (
    .opsD [sop nb 83 (.fieldAddr 71 (.tmp 1) 2) 0,
      sop nb 84 (.load 69 (.tmp 83)) 69,
      sop nb 85 (.move (.tmp 7)) 3,
      sop nb 86 (.indexAddr 69 (.tmp 84) (.tmp 85)) 0,
      sop nb 87 (.indexAddr 135 (.tmp 86) (.const (.int .i64 0))) 0,
      sop nb 88 (.load 5 (.tmp 87)) 5,
      sop nb 89 (.convert 5 3 (.tmp 88)) 3,
      sop nb 90 (.fieldAddr 24 (.tmp 3) 0) 0,
      sop nb 91 (.load 3 (.tmp 90)) 3,
      sop nb 92 (.binOp .rem 3 (.tmp 89) (.tmp 91) 3) 3,
      sop nb 93 (.fieldAddr 71 (.tmp 1) 2) 0,
      sop nb 94 (.load 69 (.tmp 93)) 69,
      sop nb 95 (.move (.tmp 7)) 3,
      sop nb 96 (.indexAddr 69 (.tmp 94) (.tmp 95)) 0,
      sop nb 97 (.indexAddr 135 (.tmp 96) (.const (.int .i64 1))) 0,
      sop nb 98 (.load 5 (.tmp 97)) 5,
      sop nb 99 (.convert 5 3 (.tmp 98)) 3,
      sop nb 100 (.fieldAddr 24 (.tmp 3) 0) 0,
      sop nb 101 (.load 3 (.tmp 100)) 3,
      sop nb 102 (.binOp .rem 3 (.tmp 99) (.tmp 101) 3) 3,
      sop nb 103 (.build 115 #[(0, (.tmp 92)), (1, (.tmp 102))]) 115,
      sop nb 8 (.alloc 115) 0,
      ⟨none, (.store 115 (.tmp 8) (.tmp 103)), 0, none, none⟩] [(1, 21), (3, 21), (4, 21), (5, 21), (8, 21), (11, 21), (13, 21), (14, 21), (15, 21), (18, 21)]) (
    .seq (
    .ops [sop nb 104 (.fieldAddr 115 (.tmp 8) 0) 0,
      sop nb 105 (.load 3 (.tmp 104)) 3,
      sop nb 106 (.fieldAddr 115 (.tmp 8) 1) 0,
      sop nb 107 (.load 3 (.tmp 106)) 3,
      sop nb 108 (.binOp .neq 3 (.tmp 105) (.tmp 107) 3) 4]) (
    .cond (.tmp 108) (
     .ops [sop nb 109 (.fieldAddr 24 (.tmp 3) 2) 0,
       sop nb 110 (.load 22 (.tmp 109)) 22,
       sop nb 111 (.load 115 (.tmp 8)) 115,
       sop nb 112 (.buildSlice 22 1 #[(0, (.tmp 111))]) 22,
       sop nb 113 (.call { callee := .builtin .append, args := #[(.tmp 110), (.tmp 112)], argTypes := #[22, 22] }) 22,
       sop nb 114 (.fieldAddr 24 (.tmp 3) 2) 0,
       ⟨none, (.store 22 (.tmp 114) (.tmp 113)), 0, none, none⟩]) (
     .skip))))) (
   .ops [sop nb 81 (.move (.tmp 7)) 3,
     sop nb 82 (.binOp .add 3 (.tmp 81) (.const (.int .i64 1)) 3) 3,
     sop nb 7 (.assign (.tmp 82)) 3])))))) (
 .seq (
 .ops [sop nb 115 (.load 24 (.tmp 3)) 24,
   ⟨none, (.store 24 (.tmp 2) (.tmp 115)), 0, none, none⟩]) (
 .ret)))))
@[go_sem] theorem rs42 : Go.Proofs.Try.f42.results.toList = [.cell 2 24] := by kernel_rfl
theorem en42 : Enters Q 42 := enters_of Go.Proofs.Try.func42 rfl (by kernel_rfl)
theorem k42 (nb : Nat) : sk nb Go.Proofs.Try.f42.ntmps (Go.Proofs.Try.f42.body.getD .skip) = some (c42 nb) := by kernel_rfl
/-- smalto/smaltolaw07.word -/
noncomputable def c43 (nb : Nat) : SC :=
 .seq (
 .ops [sop nb 2 (.box 24 (.tmp 0)) 0,
 sop nb 4 (.assign (.const (.slice none 0 0))) 26]) (
 .seq (
 .ops [sop nb 7 (.buildSlice 26 0 #[]) 26,
 sop nb 5 (.assign (.tmp 7)) 26]) (
 .seq (
 .seq (
 .ops [sop nb 6 (.assign (.const (.int .i64 0))) 3]) (
 .block 0 (
  .loop (
   .seq (
   .seq (
   .ops [sop nb 8 (.move (.tmp 6)) 3,
     sop nb 9 (.move (.tmp 1)) 72,
     sop nb 10 (.call { callee := .builtin .len, args := #[(.tmp 9)], argTypes := #[72] }) 3,
     sop nb 11 (.binOp .lss 3 (.tmp 8) (.tmp 10) 3) 4,
     sop nb 12 (.move (.tmp 11)) 4,
     ⟨some 13, (.move (.tmp 6)), 3, some (12, true), some (nb + 13)⟩,
     ⟨some 14, (.binOp .lss 3 (.tmp 13) (.const (.int .i64 6)) 3), 4, some (12, true), some (nb + 14)⟩,
     sop nb 15 (.pick (.tmp 12) (.tmp 14) (.const (.bool false))) 4]) (
   .cond (.tmp 15) (
    .skip) (
    .exit 0))) (
   .seq (
   .block 1 (
    .ops [sop nb 18 (.move (.tmp 5)) 26,
      sop nb 19 (.move (.tmp 1)) 72,
      sop nb 20 (.move (.tmp 6)) 3,
      sop nb 21 (.indexAddr 72 (.tmp 19) (.tmp 20)) 0,
      sop nb 22 (.load 5 (.tmp 21)) 5,
      sop nb 23 (.convert 5 3 (.tmp 22)) 3,
      sop nb 24 (.fieldAddr 24 (.tmp 2) 0) 0,
      sop nb 25 (.load 3 (.tmp 24)) 3,
      sop nb 26 (.binOp .rem 3 (.tmp 23) (.tmp 25) 3) 3,
      sop nb 27 (.buildSlice 26 1 #[(0, (.tmp 26))]) 26,
      sop nb 28 (.call { callee := .builtin .append, args := #[(.tmp 18), (.tmp 27)], argTypes := #[26, 26] }) 26,
      sop nb 5 (.assign (.tmp 28)) 26])) (
   .ops [sop nb 16 (.move (.tmp 6)) 3,
     sop nb 17 (.binOp .add 3 (.tmp 16) (.const (.int .i64 1)) 3) 3,
     sop nb 6 (.assign (.tmp 17)) 3])))))) (
 .seq (
 .seq (
 .ops [sop nb 29 (.move (.tmp 5)) 26,
 sop nb 30 (.call { callee := .builtin .len, args := #[(.tmp 29)], argTypes := #[26] }) 3,
 sop nb 31 (.binOp .eql 3 (.tmp 30) (.const (.int .i64 0)) 3) 4]) (
 .cond (.tmp 31) (
  .ops [sop nb 32 (.move (.tmp 5)) 26,
    sop nb 33 (.buildSlice 26 1 #[(0, (.const (.int .i64 0)))]) 26,
    sop nb 34 (.call { callee := .builtin .append, args := #[(.tmp 32), (.tmp 33)], argTypes := #[26, 26] }) 26,
    sop nb 5 (.assign (.tmp 34)) 26]) (
  .skip))) (
 .seq (
 .ops [sop nb 35 (.move (.tmp 5)) 26,
 sop nb 4 (.assign (.tmp 35)) 26]) (
 .ret)))))
@[go_sem] theorem rs43 : Go.Proofs.Try.f43.results.toList = [.tmp 4] := by kernel_rfl
theorem en43 : Enters Q 43 := enters_of Go.Proofs.Try.func43 rfl (by kernel_rfl)
theorem k43 (nb : Nat) : sk nb Go.Proofs.Try.f43.ntmps (Go.Proofs.Try.f43.body.getD .skip) = some (c43 nb) := by kernel_rfl
/-- smalto/stencil.Ways -/
noncomputable def c45 (nb : Nat) : SC :=
 .seq (
 .ops [sop nb 3 (.box 24 (.tmp 0)) 0,
 sop nb 6 (.assign (.const (.slice none 0 0))) 79,
 sop nb 7 (.assign (.const (.int .i64 0))) 34]) (
 .seq (
 .ops [sop nb 15 (.load 24 (.tmp 3)) 24,
 sop nb 16 (.move (.tmp 1)) 26,
 sop nb 17 (.move (.tmp 2)) 26,
 sop nb 18 (.call { callee := .value (.func 78), args := #[(.tmp 15), (.tmp 16), (.tmp 17)], argTypes := #[24, 26, 26] }) 117,
 sop nb 14 (.move (.tmp 18)) 117,
 sop nb 19 (.extract (.tmp 14) 0) 108,
 sop nb 20 (.extract (.tmp 14) 1) 34,
 sop nb 8 (.assign (.tmp 19)) 108,
 sop nb 7 (.assign (.tmp 20)) 34]) (
 .seq (
 .seq (
 .ops [sop nb 21 (.move (.tmp 7)) 34,
 sop nb 22 (.binOp .neq 34 (.tmp 21) (.const (.int .i64 0)) 34) 4]) (
 .cond (.tmp 22) (
  .seq (
  .ops [sop nb 23 (.move (.tmp 7)) 34,
    sop nb 6 (.assign (.const (.slice none 0 0))) 79,
    sop nb 7 (.assign (.tmp 23)) 34]) (
  .ret)) (
  .skip))) (
 .seq (
 .seq (
 .ops [sop nb 24 (.move (.tmp 1)) 26,
 sop nb 25 (.call { callee := .builtin .len, args := #[(.tmp 24)], argTypes := #[26] }) 3,
 sop nb 26 (.move (.const (.int .i64 0))) 3]) (
 .block 0 (
  .loop (
   .seq (
   .ops [sop nb 27 (.binOp .lss 3 (.tmp 26) (.tmp 25) 3) 0]) (
   .seq (
   .cond (.tmp 27) (
    .skip) (
    .exit 0)) (
   .seq (
   .block 1 (
    .seq (
    .ops [sop nb 28 (.move (.tmp 26)) 3,
      sop nb 29 (.indexAddr 26 (.tmp 24) (.tmp 26)) 0,
      sop nb 30 (.load 3 (.tmp 29)) 3,
      sop nb 9 (.assign (.tmp 28)) 3,
      sop nb 10 (.assign (.tmp 30)) 3]) (
    .seq (
    .ops [sop nb 11 (.assign (.const (.slice none 0 0))) 82]) (
    .seq (
    .seq (
    .ops [sop nb 31 (.move (.tmp 8)) 108,
      sop nb 32 (.move (.tmp 10)) 3,
      sop nb 33 (.move (.tmp 2)) 26,
      sop nb 34 (.move (.tmp 9)) 3,
      sop nb 35 (.indexAddr 26 (.tmp 33) (.tmp 34)) 0,
      sop nb 36 (.load 3 (.tmp 35)) 3,
      sop nb 37 (.call { callee := .value (.func 79), args := #[(.tmp 31), (.tmp 32), (.tmp 36)], argTypes := #[108, 3, 3] }) 138,
      sop nb 38 (.call { callee := .builtin .len, args := #[(.tmp 37)], argTypes := #[138] }) 3,
      sop nb 39 (.move (.const (.int .i64 0))) 3]) (
    .block 2 (
     .loop (
      .seq (
      .ops [sop nb 40 (.binOp .lss 3 (.tmp 39) (.tmp 38) 3) 0]) (
      .seq (
      .cond (.tmp 40) (
       .skip) (
       .exit 2)) (
      .seq (
      .block 3 (
       .seq (
       .ops [sop nb 41 (.indexAddr 138 (.tmp 37) (.tmp 39)) 0,
         sop nb 42 (.load 141 (.tmp 41)) 141,
         sop nb 13 (.alloc 141) 0,
         ⟨none, (.store 141 (.tmp 13) (.tmp 42)), 0, none, none⟩]) (
       .ops [sop nb 43 (.move (.tmp 11)) 82,
         sop nb 44 (.fieldAddr 141 (.tmp 13) 0) 0,
         sop nb 45 (.load 76 (.tmp 44)) 76,
         sop nb 46 (.buildSlice 82 1 #[(0, (.tmp 45))]) 82,
         sop nb 47 (.call { callee := .builtin .append, args := #[(.tmp 43), (.tmp 46)], argTypes := #[82, 82] }) 82,
         sop nb 11 (.assign (.tmp 47)) 82]))) (
      .ops [sop nb 48 (.binOp .add 3 (.tmp 39) (.const (.int .i64 1)) 3) 3,
        sop nb 39 (.move (.tmp 48)) 3]))))))) (
    .ops [sop nb 49 (.move (.tmp 6)) 79,
      sop nb 50 (.move (.tmp 11)) 82,
      sop nb 51 (.call { callee := .value (.func 80), args := #[(.tmp 50)], argTypes := #[82] }) 82,
      sop nb 52 (.buildSlice 79 1 #[(0, (.tmp 51))]) 79,
      sop nb 53 (.call { callee := .builtin .append, args := #[(.tmp 49), (.tmp 52)], argTypes := #[79, 79] }) 79,
      sop nb 6 (.assign (.tmp 53)) 79]))))) (
   .ops [sop nb 54 (.binOp .add 3 (.tmp 26) (.const (.int .i64 1)) 3) 3,
     sop nb 26 (.move (.tmp 54)) 3]))))))) (
 .seq (
 .ops [sop nb 55 (.move (.tmp 6)) 79,
 sop nb 6 (.assign (.tmp 55)) 79,
 sop nb 7 (.assign (.const (.int .i64 0))) 34]) (
 .ret)))))
@[go_sem] theorem rs45 : Go.Proofs.Try.f45.results.toList = [.tmp 6, .tmp 7] := by kernel_rfl
theorem en45 : Enters Q 45 := enters_of Go.Proofs.Try.func45 rfl (by kernel_rfl)
theorem k45 (nb : Nat) : sk nb Go.Proofs.Try.f45.ntmps (Go.Proofs.Try.f45.body.getD .skip) = some (c45 nb) := by kernel_rfl
/-- smalto/smaltolaw07.own -/
noncomputable def c46 (nb : Nat) : SC :=
 .seq (
 .ops [sop nb 1 (.box 24 (.tmp 0)) 0,
 sop nb 2 (.alloc 24) 0]) (
 .seq (
 .opsD [sop nb 3 (.buildSlice 22 0 #[]) 22,
 sop nb 4 (.fieldAddr 24 (.tmp 1) 1) 0,
 sop nb 5 (.load 22 (.tmp 4)) 22,
 sop nb 6 (.call { callee := .builtin .append, args := #[(.tmp 3), (.tmp 5)], argTypes := #[22, 22] }) 22,
 sop nb 7 (.buildSlice 22 0 #[]) 22,
 sop nb 8 (.fieldAddr 24 (.tmp 1) 2) 0,
 sop nb 9 (.load 22 (.tmp 8)) 22,
 sop nb 10 (.call { callee := .builtin .append, args := #[(.tmp 7), (.tmp 9)], argTypes := #[22, 22] }) 22,
 sop nb 11 (.fieldAddr 24 (.tmp 1) 1) 0,
   ⟨none, (.store 22 (.tmp 11) (.tmp 6)), 0, none, none⟩,
 sop nb 12 (.fieldAddr 24 (.tmp 1) 2) 0,
   ⟨none, (.store 22 (.tmp 12) (.tmp 10)), 0, none, none⟩] [(0, 2), (0, 4), (2, 4), (3, 4), (0, 6), (3, 6), (4, 6)]) (
 .seq (
 .ops [sop nb 13 (.load 24 (.tmp 1)) 24,
   ⟨none, (.store 24 (.tmp 2) (.tmp 13)), 0, none, none⟩]) (
 .ret)))
@[go_sem] theorem rs46 : Go.Proofs.Try.f46.results.toList = [.cell 2 24] := by kernel_rfl
theorem en46 : Enters Q 46 := enters_of Go.Proofs.Try.func46 rfl (by kernel_rfl)
theorem k46 (nb : Nat) : sk nb Go.Proofs.Try.f46.ntmps (Go.Proofs.Try.f46.body.getD .skip) = some (c46 nb) := by kernel_rfl
/-- smalto/stencil.Fewest -/
noncomputable def c47 (nb : Nat) : SC :=
 .seq (
 .ops [sop nb 3 (.box 24 (.tmp 0)) 0,
 sop nb 6 (.assign (.const (.slice none 0 0))) 82,
 sop nb 7 (.assign (.const (.int .i64 0))) 3,
 sop nb 8 (.assign (.const (.int .i64 0))) 34]) (
 .seq (
 .ops [sop nb 15 (.load 24 (.tmp 3)) 24,
 sop nb 16 (.move (.tmp 1)) 26,
 sop nb 17 (.move (.tmp 2)) 26,
 sop nb 18 (.call { callee := .value (.func 78), args := #[(.tmp 15), (.tmp 16), (.tmp 17)], argTypes := #[24, 26, 26] }) 117,
 sop nb 14 (.move (.tmp 18)) 117,
 sop nb 19 (.extract (.tmp 14) 0) 108,
 sop nb 20 (.extract (.tmp 14) 1) 34,
 sop nb 9 (.assign (.tmp 19)) 108,
 sop nb 10 (.assign (.tmp 20)) 34]) (
 .seq (
 .seq (
 .ops [sop nb 21 (.move (.tmp 10)) 34,
 sop nb 22 (.binOp .neq 34 (.tmp 21) (.const (.int .i64 0)) 34) 4]) (
 .cond (.tmp 22) (
  .seq (
  .ops [sop nb 23 (.move (.tmp 10)) 34,
    sop nb 6 (.assign (.const (.slice none 0 0))) 82,
    sop nb 7 (.assign (.const (.int .i64 0))) 3,
    sop nb 8 (.assign (.tmp 23)) 34]) (
  .ret)) (
  .skip))) (
 .seq (
 .ops [sop nb 25 (.move (.tmp 9)) 108,
 sop nb 26 (.move (.tmp 1)) 26,
 sop nb 27 (.move (.tmp 2)) 26,
 sop nb 28 (.call { callee := .value (.func 81), args := #[(.tmp 25), (.tmp 26), (.tmp 27)], argTypes := #[108, 26, 26] }) 143,
 sop nb 24 (.move (.tmp 28)) 143,
 sop nb 29 (.extract (.tmp 24) 0) 82,
 sop nb 30 (.extract (.tmp 24) 1) 3,
 sop nb 31 (.extract (.tmp 24) 2) 4,
 sop nb 11 (.assign (.tmp 29)) 82,
 sop nb 12 (.assign (.tmp 30)) 3,
 sop nb 13 (.assign (.tmp 31)) 4]) (
 .seq (
 .seq (
 .ops [sop nb 32 (.move (.tmp 13)) 4,
 sop nb 33 (.unOp .not 4 (.tmp 32)) 4]) (
 .cond (.tmp 33) (
  .seq (
  .ops [sop nb 6 (.assign (.const (.slice none 0 0))) 82,
    sop nb 7 (.assign (.const (.int .i64 0))) 3,
    sop nb 8 (.assign (.const (.int .i64 7))) 34]) (
  .ret)) (
  .skip))) (
 .seq (
 .ops [sop nb 34 (.move (.tmp 11)) 82,
 sop nb 35 (.move (.tmp 12)) 3,
 sop nb 6 (.assign (.tmp 34)) 82,
 sop nb 7 (.assign (.tmp 35)) 3,
 sop nb 8 (.assign (.const (.int .i64 0))) 34]) (
 .ret))))))
@[go_sem] theorem rs47 : Go.Proofs.Try.f47.results.toList = [.tmp 6, .tmp 7, .tmp 8] := by kernel_rfl
theorem en47 : Enters Q 47 := enters_of Go.Proofs.Try.func47 rfl (by kernel_rfl)
theorem k47 (nb : Nat) : sk nb Go.Proofs.Try.f47.ntmps (Go.Proofs.Try.f47.body.getD .skip) = some (c47 nb) := by kernel_rfl
/-- smalto/smaltolaw07.kinds -/
noncomputable def c48 (nb : Nat) : SC :=
 .seq (
 .ops [sop nb 2 (.assign (.const (.slice none 0 0))) 26]) (
 .seq (
 .ops [sop nb 5 (.buildSlice 26 0 #[]) 26,
 sop nb 3 (.assign (.tmp 5)) 26]) (
 .seq (
 .seq (
 .ops [sop nb 4 (.assign (.const (.int .i64 0))) 3]) (
 .block 0 (
  .loop (
   .seq (
   .seq (
   .ops [sop nb 6 (.move (.tmp 4)) 3,
     sop nb 7 (.move (.tmp 0)) 82,
     sop nb 8 (.call { callee := .builtin .len, args := #[(.tmp 7)], argTypes := #[82] }) 3,
     sop nb 9 (.binOp .lss 3 (.tmp 6) (.tmp 8) 3) 4]) (
   .cond (.tmp 9) (
    .skip) (
    .exit 0))) (
   .seq (
   .block 1 (
    .ops [sop nb 12 (.move (.tmp 3)) 26,
      sop nb 13 (.move (.tmp 0)) 82,
      sop nb 14 (.move (.tmp 4)) 3,
      sop nb 15 (.indexAddr 82 (.tmp 13) (.tmp 14)) 0,
      sop nb 16 (.load 76 (.tmp 15)) 76,
      sop nb 17 (.buildSlice 26 1 #[(0, (.tmp 16))]) 26,
      sop nb 18 (.call { callee := .builtin .append, args := #[(.tmp 12), (.tmp 17)], argTypes := #[26, 26] }) 26,
      sop nb 3 (.assign (.tmp 18)) 26])) (
   .ops [sop nb 10 (.move (.tmp 4)) 3,
     sop nb 11 (.binOp .add 3 (.tmp 10) (.const (.int .i64 1)) 3) 3,
     sop nb 4 (.assign (.tmp 11)) 3])))))) (
 .seq (
 .ops [sop nb 19 (.move (.tmp 3)) 26,
 sop nb 2 (.assign (.tmp 19)) 26]) (
 .ret))))
@[go_sem] theorem rs48 : Go.Proofs.Try.f48.results.toList = [.tmp 2] := by kernel_rfl
theorem en48 : Enters Q 48 := enters_of Go.Proofs.Try.func48 rfl (by kernel_rfl)
theorem k48 (nb : Nat) : sk nb Go.Proofs.Try.f48.ntmps (Go.Proofs.Try.f48.body.getD .skip) = some (c48 nb) := by kernel_rfl
/-- smalto/smaltolaw07.has -/
noncomputable def c49 (nb : Nat) : SC :=
 .seq (
 .ops [sop nb 4 (.assign (.const (.bool false))) 4]) (
 .seq (
 .seq (
 .ops [sop nb 5 (.assign (.const (.int .i64 0))) 3]) (
 .block 0 (
  .loop (
   .seq (
   .seq (
   .ops [sop nb 6 (.move (.tmp 5)) 3,
     sop nb 7 (.move (.tmp 0)) 26,
     sop nb 8 (.call { callee := .builtin .len, args := #[(.tmp 7)], argTypes := #[26] }) 3,
     sop nb 9 (.binOp .lss 3 (.tmp 6) (.tmp 8) 3) 4]) (
   .cond (.tmp 9) (
    .skip) (
    .exit 0))) (
   .seq (
   .block 1 (
    .seq (
    .ops [sop nb 12 (.move (.tmp 0)) 26,
      sop nb 13 (.move (.tmp 5)) 3,
      sop nb 14 (.indexAddr 26 (.tmp 12) (.tmp 13)) 0,
      sop nb 15 (.load 3 (.tmp 14)) 3,
      sop nb 16 (.move (.tmp 1)) 3,
      sop nb 17 (.binOp .eql 3 (.tmp 15) (.tmp 16) 3) 4]) (
    .cond (.tmp 17) (
     .seq (
     .ops [sop nb 4 (.assign (.const (.bool true))) 4]) (
     .ret)) (
     .skip)))) (
   .ops [sop nb 10 (.move (.tmp 5)) 3,
     sop nb 11 (.binOp .add 3 (.tmp 10) (.const (.int .i64 1)) 3) 3,
     sop nb 5 (.assign (.tmp 11)) 3])))))) (
 .seq (
 .ops [sop nb 4 (.assign (.const (.bool false))) 4]) (
 .ret)))
@[go_sem] theorem rs49 : Go.Proofs.Try.f49.results.toList = [.tmp 4] := by kernel_rfl
theorem en49 : Enters Q 49 := enters_of Go.Proofs.Try.func49 rfl (by kernel_rfl)
theorem k49 (nb : Nat) : sk nb Go.Proofs.Try.f49.ntmps (Go.Proofs.Try.f49.body.getD .skip) = some (c49 nb) := by kernel_rfl
/-- smalto/smaltolaw07.head -/
noncomputable def c50 (nb : Nat) : SC :=
 .seq (
 .ops [sop nb 2 (.box 24 (.tmp 0)) 0,
 sop nb 4 (.assign (.const (.int .i64 0))) 3]) (
 .seq (
 .seq (
 .ops [sop nb 5 (.assign (.const (.int .i64 0))) 3]) (
 .block 0 (
  .loop (
   .seq (
   .seq (
   .ops [sop nb 7 (.move (.tmp 5)) 3,
     sop nb 8 (.fieldAddr 24 (.tmp 2) 1) 0,
     sop nb 9 (.load 22 (.tmp 8)) 22,
     sop nb 10 (.call { callee := .builtin .len, args := #[(.tmp 9)], argTypes := #[22] }) 3,
     sop nb 11 (.binOp .lss 3 (.tmp 7) (.tmp 10) 3) 4]) (
   .cond (.tmp 11) (
    .skip) (
    .exit 0))) (
   .seq (
   .block 1 (
    .seq (
    .ops [sop nb 14 (.fieldAddr 24 (.tmp 2) 1) 0,
      sop nb 15 (.load 22 (.tmp 14)) 22,
      sop nb 16 (.move (.tmp 5)) 3,
      sop nb 17 (.indexAddr 22 (.tmp 15) (.tmp 16)) 0,
      sop nb 18 (.load 115 (.tmp 17)) 115,
      sop nb 6 (.alloc 115) 0,
      ⟨none, (.store 115 (.tmp 6) (.tmp 18)), 0, none, none⟩]) (
    .seq (
    .ops [sop nb 19 (.move (.tmp 1)) 3]) (
    .block 2 (
     .seq (
     .ops [sop nb 21 (.fieldAddr 115 (.tmp 6) 0) 0,
       sop nb 22 (.load 3 (.tmp 21)) 3,
       sop nb 23 (.binOp .eql 3 (.tmp 19) (.tmp 22) 3) 4,
       sop nb 20 (.assign (.tmp 23)) 4]) (
     .cond (.tmp 20) (
      .seq (
      .ops [sop nb 24 (.fieldAddr 115 (.tmp 6) 1) 0,
        sop nb 25 (.load 3 (.tmp 24)) 3,
        sop nb 4 (.assign (.tmp 25)) 3]) (
      .ret)) (
      .seq (
      .ops [sop nb 27 (.fieldAddr 115 (.tmp 6) 1) 0,
        sop nb 28 (.load 3 (.tmp 27)) 3,
        sop nb 29 (.binOp .eql 3 (.tmp 19) (.tmp 28) 3) 4,
        sop nb 26 (.assign (.tmp 29)) 4]) (
      .cond (.tmp 26) (
       .seq (
       .ops [sop nb 30 (.fieldAddr 115 (.tmp 6) 0) 0,
         sop nb 31 (.load 3 (.tmp 30)) 3,
         sop nb 4 (.assign (.tmp 31)) 3]) (
       .ret)) (
       .skip))))))))) (
   .ops [sop nb 12 (.move (.tmp 5)) 3,
     sop nb 13 (.binOp .add 3 (.tmp 12) (.const (.int .i64 1)) 3) 3,
     sop nb 5 (.assign (.tmp 13)) 3])))))) (
 .seq (
 .ops [sop nb 4 (.assign (.const (.int .i64 (-1)))) 3]) (
 .ret)))
@[go_sem] theorem rs50 : Go.Proofs.Try.f50.results.toList = [.tmp 4] := by kernel_rfl
theorem en50 : Enters Q 50 := enters_of Go.Proofs.Try.func50 rfl (by kernel_rfl)
theorem k50 (nb : Nat) : sk nb Go.Proofs.Try.f50.ntmps (Go.Proofs.Try.f50.body.getD .skip) = some (c50 nb) := by kernel_rfl
/-- smalto/smaltolaw07.counts -/
noncomputable def c53 (nb : Nat) : SC :=
 .seq (
 .ops [sop nb 2 (.box 24 (.tmp 0)) 0,
 sop nb 3 (.box 95 (.tmp 1)) 0,
 sop nb 4 (.assign (.const (.slice none 0 0))) 26]) (
 .seq (
 .ops [sop nb 7 (.buildSlice 26 0 #[]) 26,
 sop nb 5 (.assign (.tmp 7)) 26]) (
 .seq (
 .seq (
 .ops [sop nb 6 (.assign (.const (.int .i64 0))) 3]) (
 .block 0 (
  .loop (
   .seq (
   .seq (
   .ops [sop nb 8 (.move (.tmp 6)) 3,
     sop nb 9 (.fieldAddr 24 (.tmp 2) 0) 0,
     sop nb 10 (.load 3 (.tmp 9)) 3,
     sop nb 11 (.binOp .lss 3 (.tmp 8) (.tmp 10) 3) 4]) (
   .cond (.tmp 11) (
    .skip) (
    .exit 0))) (
   .seq (
   .block 1 (
    .ops [sop nb 14 (.move (.tmp 5)) 26,
      sop nb 15 (.move (.tmp 6)) 3,
      sop nb 16 (.indexAddr 95 (.tmp 3) (.tmp 15)) 0,
      sop nb 17 (.load 5 (.tmp 16)) 5,
      sop nb 18 (.convert 5 3 (.tmp 17)) 3,
      sop nb 19 (.binOp .rem 3 (.tmp 18) (.const (.int .i64 6)) 3) 3,
      sop nb 20 (.buildSlice 26 1 #[(0, (.tmp 19))]) 26,
      sop nb 21 (.call { callee := .builtin .append, args := #[(.tmp 14), (.tmp 20)], argTypes := #[26, 26] }) 26,
      sop nb 5 (.assign (.tmp 21)) 26])) (
   .ops [sop nb 12 (.move (.tmp 6)) 3,
     sop nb 13 (.binOp .add 3 (.tmp 12) (.const (.int .i64 1)) 3) 3,
     sop nb 6 (.assign (.tmp 13)) 3])))))) (
 .seq (
 .ops [sop nb 22 (.move (.tmp 5)) 26,
 sop nb 4 (.assign (.tmp 22)) 26]) (
 .ret))))
@[go_sem] theorem rs53 : Go.Proofs.Try.f53.results.toList = [.tmp 4] := by kernel_rfl
theorem en53 : Enters Q 53 := enters_of Go.Proofs.Try.func53 rfl (by kernel_rfl)
theorem k53 (nb : Nat) : sk nb Go.Proofs.Try.f53.ntmps (Go.Proofs.Try.f53.body.getD .skip) = some (c53 nb) := by kernel_rfl
/-- smalto/smaltolaw07.letters -/
noncomputable def c57 (nb : Nat) : SC :=
 .seq (
 .ops [sop nb 0 (.alloc 24) 0]) (
 .seq (
 .ops [sop nb 1 (.build 115 #[(0, (.const (.int .i64 0))), (1, (.const (.int .i64 1)))]) 115,
 sop nb 2 (.build 115 #[(0, (.const (.int .i64 2))), (1, (.const (.int .i64 2)))]) 115,
 sop nb 3 (.build 115 #[(0, (.const (.int .i64 3))), (1, (.const (.int .i64 3)))]) 115,
 sop nb 4 (.buildSlice 22 3 #[(0, (.tmp 1)), (1, (.tmp 2)), (2, (.tmp 3))]) 22,
 sop nb 5 (.build 115 #[(0, (.const (.int .i64 0))), (1, (.const (.int .i64 2)))]) 115,
 sop nb 6 (.build 115 #[(0, (.const (.int .i64 3))), (1, (.const (.int .i64 4)))]) 115,
 sop nb 7 (.buildSlice 22 2 #[(0, (.tmp 5)), (1, (.tmp 6))]) 22,
 sop nb 8 (.build 24 #[(0, (.const (.int .i64 5))), (1, (.tmp 4)), (2, (.tmp 7))]) 24,
   ⟨none, (.store 24 (.tmp 0) (.tmp 8)), 0, none, none⟩]) (
 .ret))
@[go_sem] theorem rs57 : Go.Proofs.Try.f57.results.toList = [.cell 0 24] := by kernel_rfl
theorem en57 : Enters Q 57 := enters_of Go.Proofs.Try.func57 rfl (by kernel_rfl)
theorem k57 (nb : Nat) : sk nb Go.Proofs.Try.f57.ntmps (Go.Proofs.Try.f57.body.getD .skip) = some (c57 nb) := by kernel_rfl
/-- smalto/smaltolaw07.words -/
noncomputable def c58 (nb : Nat) : SC :=
 .seq (
 .ops [sop nb 0 (.assign (.const (.slice none 0 0))) 25]) (
 .seq (
 .ops [sop nb 1 (.buildSlice 26 3 #[(0, (.const (.int .i64 0))), (1, (.const (.int .i64 3))), (2, (.const (.int .i64 4)))]) 26,
 sop nb 2 (.buildSlice 26 3 #[(0, (.const (.int .i64 1))), (1, (.const (.int .i64 3))), (2, (.const (.int .i64 4)))]) 26,
 sop nb 3 (.buildSlice 26 3 #[(0, (.const (.int .i64 2))), (1, (.const (.int .i64 3))), (2, (.const (.int .i64 4)))]) 26,
 sop nb 4 (.buildSlice 26 3 #[(0, (.const (.int .i64 0))), (1, (.const (.int .i64 4))), (2, (.const (.int .i64 3)))]) 26,
 sop nb 5 (.buildSlice 25 4 #[(0, (.tmp 1)), (1, (.tmp 2)), (2, (.tmp 3)), (3, (.tmp 4))]) 25,
 sop nb 0 (.assign (.tmp 5)) 25]) (
 .ret))
@[go_sem] theorem rs58 : Go.Proofs.Try.f58.results.toList = [.tmp 0] := by kernel_rfl
theorem en58 : Enters Q 58 := enters_of Go.Proofs.Try.func58 rfl (by kernel_rfl)
theorem k58 (nb : Nat) : sk nb Go.Proofs.Try.f58.ntmps (Go.Proofs.Try.f58.body.getD .skip) = some (c58 nb) := by kernel_rfl
/-- smalto/smaltolaw07.cases -/
noncomputable def c59 (nb : Nat) : SC :=
 .seq (
 .ops [sop nb 0 (.assign (.const (.slice none 0 0))) 25]) (
 .seq (
 .ops [sop nb 1 (.buildSlice 26 5 #[(0, (.const (.int .i64 1))), (1, (.const (.int .i64 0))), (2, (.const (.int .i64 1))), (3, (.const (.int .i64 1))), (4, (.const (.int .i64 1)))]) 26,
 sop nb 2 (.buildSlice 26 5 #[(0, (.const (.int .i64 0))), (1, (.const (.int .i64 1))), (2, (.const (.int .i64 1))), (3, (.const (.int .i64 0))), (4, (.const (.int .i64 2)))]) 26,
 sop nb 3 (.buildSlice 26 5 #[(0, (.const (.int .i64 2))), (1, (.const (.int .i64 0))), (2, (.const (.int .i64 0))), (3, (.const (.int .i64 1))), (4, (.const (.int .i64 0)))]) 26,
 sop nb 4 (.buildSlice 25 3 #[(0, (.tmp 1)), (1, (.tmp 2)), (2, (.tmp 3))]) 25,
 sop nb 0 (.assign (.tmp 4)) 25]) (
 .ret))
@[go_sem] theorem rs59 : Go.Proofs.Try.f59.results.toList = [.tmp 0] := by kernel_rfl
theorem en59 : Enters Q 59 := enters_of Go.Proofs.Try.func59 rfl (by kernel_rfl)
theorem k59 (nb : Nat) : sk nb Go.Proofs.Try.f59.ntmps (Go.Proofs.Try.f59.body.getD .skip) = some (c59 nb) := by kernel_rfl
/-- smalto/stencil.newMeaning -/
noncomputable def c60 (nb : Nat) : SC :=
 .seq (
 .ops [sop nb 4 (.box 24 (.tmp 0)) 0,
 sop nb 8 (.alloc 110) 0,
 sop nb 9 (.assign (.const (.int .i64 0))) 34]) (
 .seq (
 .ops [sop nb 17 (.load 24 (.tmp 4)) 24,
 sop nb 18 (.call { callee := .value (.func 82), args := #[(.tmp 17)], argTypes := #[24] }) 117,
 sop nb 16 (.move (.tmp 18)) 117,
 sop nb 19 (.extract (.tmp 16) 0) 108,
 sop nb 20 (.extract (.tmp 16) 1) 34,
 sop nb 10 (.assign (.tmp 19)) 108,
 sop nb 9 (.assign (.tmp 20)) 34]) (
 .seq (
 .block 0 (
  .seq (
  .ops [sop nb 22 (.move (.tmp 9)) 34,
    sop nb 23 (.binOp .neq 34 (.tmp 22) (.const (.int .i64 0)) 34) 4,
    sop nb 21 (.assign (.tmp 23)) 4]) (
  .cond (.tmp 21) (
   .seq (
   .ops [sop nb 24 (.load 110 (.tmp 8)) 110,
     sop nb 25 (.move (.tmp 9)) 34,
     ⟨none, (.store 110 (.tmp 8) (.tmp 24)), 0, none, none⟩,
     sop nb 9 (.assign (.tmp 25)) 34]) (
   .ret)) (
   .seq (
   .ops [sop nb 27 (.move (.tmp 1)) 25,
     sop nb 28 (.call { callee := .builtin .len, args := #[(.tmp 27)], argTypes := #[25] }) 3,
     sop nb 29 (.binOp .gtr 3 (.tmp 28) (.const (.int .i64 5)) 3) 4,
     sop nb 26 (.assign (.tmp 29)) 4]) (
   .cond (.tmp 26) (
    .seq (
    .ops [sop nb 30 (.load 110 (.tmp 8)) 110,
      ⟨none, (.store 110 (.tmp 8) (.tmp 30)), 0, none, none⟩,
      sop nb 9 (.assign (.const (.int .i64 5))) 34]) (
    .ret)) (
    .seq (
    .seq (
    .ops [sop nb 32 (.move (.tmp 10)) 108,
      sop nb 33 (.move (.tmp 1)) 25,
      sop nb 34 (.call { callee := .value (.func 85), args := #[(.tmp 32), (.tmp 33)], argTypes := #[108, 25] }) 4,
      sop nb 35 (.unOp .not 4 (.tmp 34)) 4,
      sop nb 31 (.assign (.tmp 35)) 4]) (
    .cond (.tmp 31) (
     .skip) (
     .ops [sop nb 36 (.move (.tmp 10)) 108,
       sop nb 37 (.move (.tmp 2)) 26,
       sop nb 38 (.buildSlice 26 1 #[(0, (.const (.int .i64 (-1))))]) 26,
       sop nb 39 (.call { callee := .value (.func 86), args := #[(.tmp 36), (.tmp 37), (.tmp 38)], argTypes := #[108, 26, 26] }) 4,
       sop nb 40 (.unOp .not 4 (.tmp 39)) 4,
       sop nb 31 (.assign (.tmp 40)) 4]))) (
    .cond (.tmp 31) (
     .seq (
     .ops [sop nb 41 (.load 110 (.tmp 8)) 110,
       ⟨none, (.store 110 (.tmp 8) (.tmp 41)), 0, none, none⟩,
       sop nb 9 (.assign (.const (.int .i64 4))) 34]) (
     .ret)) (
     .seq (
     .ops [sop nb 43 (.move (.tmp 3)) 3,
       sop nb 44 (.buildSlice 26 1 #[(0, (.tmp 43))]) 26,
       sop nb 45 (.call { callee := .value (.func 87), args := #[(.const (.int .i64 0)), (.const (.int .i64 12)), (.tmp 44)], argTypes := #[3, 3, 26] }) 4,
       sop nb 46 (.unOp .not 4 (.tmp 45)) 4,
       sop nb 42 (.assign (.tmp 46)) 4]) (
     .cond (.tmp 42) (
      .seq (
      .ops [sop nb 47 (.load 110 (.tmp 8)) 110,
        ⟨none, (.store 110 (.tmp 8) (.tmp 47)), 0, none, none⟩,
        sop nb 9 (.assign (.const (.int .i64 3))) 34]) (
      .ret)) (
      .skip)))))))))) (
 .seq (
 .ops [sop nb 48 (.move (.tmp 10)) 108,
 sop nb 49 (.move (.tmp 1)) 25,
 sop nb 50 (.move (.tmp 2)) 26,
 sop nb 51 (.move (.tmp 3)) 3,
 sop nb 52 (.build 110 #[(0, (.tmp 48)), (1, (.tmp 49)), (2, (.tmp 50)), (3, (.tmp 51)), (4, (.const (.slice none 0 0)))]) 110,
   ⟨none, (.store 110 (.tmp 8) (.tmp 52)), 0, none, none⟩]) (
 .seq (
 .seq (
 .ops [sop nb 53 (.move (.tmp 1)) 25,
 sop nb 54 (.call { callee := .builtin .len, args := #[(.tmp 53)], argTypes := #[25] }) 3,
 sop nb 55 (.move (.const (.int .i64 0))) 3]) (
 .block 1 (
  .loop (
   .seq (
   .ops [sop nb 56 (.binOp .lss 3 (.tmp 55) (.tmp 54) 3) 0]) (
   .seq (
   .cond (.tmp 56) (
    .skip) (
    .exit 1)) (
   .seq (
   .block 2 (
    .seq (
    .ops [sop nb 57 (.move (.tmp 55)) 3,
      sop nb 58 (.indexAddr 25 (.tmp 53) (.tmp 55)) 0,
      sop nb 59 (.load 26 (.tmp 58)) 26,
      sop nb 11 (.assign (.tmp 57)) 3,
      sop nb 12 (.assign (.tmp 59)) 26]) (
    .seq (
    .seq (
    .ops [sop nb 60 (.move (.tmp 12)) 26,
      sop nb 61 (.call { callee := .builtin .len, args := #[(.tmp 60)], argTypes := #[26] }) 3,
      sop nb 62 (.move (.tmp 2)) 26,
      sop nb 63 (.call { callee := .builtin .len, args := #[(.tmp 62)], argTypes := #[26] }) 3,
      sop nb 64 (.binOp .neq 3 (.tmp 61) (.tmp 63) 3) 4]) (
    .cond (.tmp 64) (
     .exit 2) (
     .skip))) (
    .seq (
    .ops [sop nb 66 (.move (.tmp 10)) 108,
      sop nb 67 (.move (.tmp 12)) 26,
      sop nb 68 (.move (.tmp 2)) 26,
      sop nb 69 (.call { callee := .value (.func 81), args := #[(.tmp 66), (.tmp 67), (.tmp 68)], argTypes := #[108, 26, 26] }) 143,
      sop nb 65 (.move (.tmp 69)) 143,
      sop nb 70 (.extract (.tmp 65) 0) 82,
      sop nb 71 (.extract (.tmp 65) 1) 3,
      sop nb 72 (.extract (.tmp 65) 2) 4,
      sop nb 13 (.assign (.tmp 70)) 82,
      sop nb 14 (.assign (.tmp 71)) 3,
      sop nb 15 (.assign (.tmp 72)) 4]) (
    .seq (
    .ops [sop nb 73 (.move (.tmp 15)) 4,
      sop nb 74 (.move (.tmp 73)) 4,
      ⟨some 75, (.move (.tmp 14)), 3, some (74, true), some (nb + 75)⟩,
      ⟨some 76, (.move (.tmp 3)), 3, some (74, true), some (nb + 76)⟩,
      ⟨some 77, (.binOp .leq 3 (.tmp 75) (.tmp 76) 3), 4, some (74, true), some (nb + 77)⟩,
      sop nb 78 (.pick (.tmp 74) (.tmp 77) (.const (.bool false))) 4]) (
    .cond (.tmp 78) (
     .ops [sop nb 79 (.fieldAddr 110 (.tmp 8) 4) 0,
       sop nb 80 (.load 26 (.tmp 79)) 26,
       sop nb 81 (.move (.tmp 11)) 3,
       sop nb 82 (.buildSlice 26 1 #[(0, (.tmp 81))]) 26,
       sop nb 83 (.call { callee := .builtin .append, args := #[(.tmp 80), (.tmp 82)], argTypes := #[26, 26] }) 26,
       sop nb 84 (.fieldAddr 110 (.tmp 8) 4) 0,
       ⟨none, (.store 26 (.tmp 84) (.tmp 83)), 0, none, none⟩]) (
     .skip))))))) (
   .ops [sop nb 85 (.binOp .add 3 (.tmp 55) (.const (.int .i64 1)) 3) 3,
     sop nb 55 (.move (.tmp 85)) 3]))))))) (
 .seq (
 .seq (
 .ops [sop nb 86 (.fieldAddr 110 (.tmp 8) 4) 0,
 sop nb 87 (.load 26 (.tmp 86)) 26,
 sop nb 88 (.binOp .eql 26 (.tmp 87) (.const (.slice none 0 0)) 26) 4]) (
 .cond (.tmp 88) (
  .seq (
  .ops [sop nb 89 (.load 110 (.tmp 8)) 110,
    ⟨none, (.store 110 (.tmp 8) (.tmp 89)), 0, none, none⟩,
    sop nb 9 (.assign (.const (.int .i64 7))) 34]) (
  .ret)) (
  .skip))) (
 .seq (
 .ops [sop nb 90 (.load 110 (.tmp 8)) 110,
   ⟨none, (.store 110 (.tmp 8) (.tmp 90)), 0, none, none⟩,
 sop nb 9 (.assign (.const (.int .i64 0))) 34]) (
 .ret)))))))
@[go_sem] theorem rs60 : Go.Proofs.Try.f60.results.toList = [.cell 8 110, .tmp 9] := by kernel_rfl
theorem en60 : Enters Q 60 := enters_of Go.Proofs.Try.func60 rfl (by kernel_rfl)
theorem k60 (nb : Nat) : sk nb Go.Proofs.Try.f60.ntmps (Go.Proofs.Try.f60.body.getD .skip) = some (c60 nb) := by kernel_rfl
/-- (smalto/stencil.meaning).left -/
noncomputable def c61 (nb : Nat) : SC :=
 .seq (
 .ops [sop nb 2 (.box 110 (.tmp 0)) 0,
 sop nb 4 (.assign (.const (.int .i64 0))) 3]) (
 .seq (
 .ops [sop nb 11 (.makeMap 150 none) 150,
 sop nb 5 (.assign (.tmp 11)) 150]) (
 .seq (
 .seq (
 .ops [sop nb 12 (.fieldAddr 110 (.tmp 2) 4) 0,
 sop nb 13 (.load 26 (.tmp 12)) 26,
 sop nb 14 (.call { callee := .builtin .len, args := #[(.tmp 13)], argTypes := #[26] }) 3,
 sop nb 15 (.move (.const (.int .i64 0))) 3]) (
 .block 0 (
  .loop (
   .seq (
   .ops [sop nb 16 (.binOp .lss 3 (.tmp 15) (.tmp 14) 3) 0]) (
   .seq (
   .cond (.tmp 16) (
    .skip) (
    .exit 0)) (
   .seq (
   .block 1 (
    .seq (
    .ops [sop nb 17 (.indexAddr 26 (.tmp 13) (.tmp 15)) 0,
      sop nb 18 (.load 3 (.tmp 17)) 3,
      sop nb 7 (.assign (.tmp 18)) 3]) (
    .seq (
    .ops [sop nb 19 (.load 110 (.tmp 2)) 110,
      sop nb 20 (.fieldAddr 110 (.tmp 2) 1) 0,
      sop nb 21 (.load 25 (.tmp 20)) 25,
      sop nb 22 (.move (.tmp 7)) 3,
      sop nb 23 (.indexAddr 25 (.tmp 21) (.tmp 22)) 0,
      sop nb 24 (.load 26 (.tmp 23)) 26,
      sop nb 25 (.move (.tmp 1)) 3,
      sop nb 26 (.call { callee := .value (.func 88), args := #[(.tmp 19), (.tmp 24), (.tmp 25)], argTypes := #[110, 26, 3] }) 151,
      sop nb 27 (.range 151 (.tmp 26)) 0]) (
    .block 2 (
     .loop (
      .seq (
      .ops [sop nb 28 (.next (.tmp 27) false) 0,
        sop nb 29 (.extract (.tmp 28) 0) 4]) (
      .seq (
      .cond (.tmp 29) (
       .skip) (
       .exit 2)) (
      .block 3 (
       .seq (
       .ops [sop nb 30 (.entry (.tmp 27)) 0,
         sop nb 31 (.extract (.tmp 30) 0) 3,
         sop nb 8 (.assign (.tmp 31)) 3]) (
       .ops [sop nb 32 (.move (.tmp 5)) 150,
         sop nb 33 (.move (.tmp 8)) 3,
         sop nb 34 (.lookup 150 (.tmp 32) (.tmp 33) false) 3,
         sop nb 35 (.binOp .add 3 (.tmp 34) (.const (.int .i64 1)) 3) 3,
         ⟨none, (.mapUpdate 150 (.tmp 32) (.tmp 33) (.tmp 35)), 0, none, none⟩])))))))))) (
   .ops [sop nb 36 (.binOp .add 3 (.tmp 15) (.const (.int .i64 1)) 3) 3,
     sop nb 15 (.move (.tmp 36)) 3]))))))) (
 .seq (
 .seq (
 .ops [sop nb 37 (.move (.tmp 5)) 150,
 sop nb 38 (.range 150 (.tmp 37)) 0]) (
 .block 4 (
  .loop (
   .seq (
   .ops [sop nb 39 (.next (.tmp 38) false) 0,
     sop nb 40 (.extract (.tmp 39) 0) 4]) (
   .seq (
   .cond (.tmp 40) (
    .skip) (
    .exit 4)) (
   .block 5 (
    .seq (
    .ops [sop nb 41 (.entry (.tmp 38)) 0,
      sop nb 42 (.extract (.tmp 41) 1) 3,
      sop nb 10 (.assign (.tmp 42)) 3]) (
    .ops [sop nb 43 (.move (.tmp 4)) 3,
      sop nb 44 (.move (.tmp 10)) 3,
      sop nb 45 (.call { callee := .builtin .max, args := #[(.tmp 43), (.tmp 44)], argTypes := #[3, 3] }) 3,
      sop nb 4 (.assign (.tmp 45)) 3])))))))) (
 .seq (
 .ops [sop nb 46 (.move (.tmp 4)) 3,
 sop nb 4 (.assign (.tmp 46)) 3]) (
 .ret)))))
@[go_sem] theorem rs61 : Go.Proofs.Try.f61.results.toList = [.tmp 4] := by kernel_rfl
theorem en61 : Enters Q 61 := enters_of Go.Proofs.Try.func61 rfl (by kernel_rfl)
theorem k61 (nb : Nat) : sk nb Go.Proofs.Try.f61.ntmps (Go.Proofs.Try.f61.body.getD .skip) = some (c61 nb) := by kernel_rfl
/-- smalto/smaltoref07.Order -/
noncomputable def c62 (nb : Nat) : SC :=
 .seq (
 .ops [sop nb 4 (.assign (.const (.int .i64 0))) 3]) (
 .seq (
 .seq (
 .ops [sop nb 5 (.assign (.const (.int .i64 0))) 3]) (
 .block 0 (
  .loop (
   .seq (
   .seq (
   .ops [sop nb 6 (.move (.tmp 5)) 3,
     sop nb 7 (.move (.tmp 0)) 26,
     sop nb 8 (.call { callee := .builtin .len, args := #[(.tmp 7)], argTypes := #[26] }) 3,
     sop nb 9 (.binOp .lss 3 (.tmp 6) (.tmp 8) 3) 4,
     sop nb 10 (.move (.tmp 9)) 4,
     ⟨some 11, (.move (.tmp 5)), 3, some (10, true), some (nb + 11)⟩,
     ⟨some 12, (.move (.tmp 1)), 26, some (10, true), some (nb + 12)⟩,
     ⟨some 13, (.call { callee := .builtin .len, args := #[(.tmp 12)], argTypes := #[26] }), 3, some (10, true), some (nb + 13)⟩,
     ⟨some 14, (.binOp .lss 3 (.tmp 11) (.tmp 13) 3), 4, some (10, true), some (nb + 14)⟩,
     sop nb 15 (.pick (.tmp 10) (.tmp 14) (.const (.bool false))) 4]) (
   .cond (.tmp 15) (
    .skip) (
    .exit 0))) (
   .seq (
   .block 1 (
    .seq (
    .ops [sop nb 18 (.move (.tmp 0)) 26,
      sop nb 19 (.move (.tmp 5)) 3,
      sop nb 20 (.indexAddr 26 (.tmp 18) (.tmp 19)) 0,
      sop nb 21 (.load 3 (.tmp 20)) 3,
      sop nb 22 (.move (.tmp 1)) 26,
      sop nb 23 (.move (.tmp 5)) 3,
      sop nb 24 (.indexAddr 26 (.tmp 22) (.tmp 23)) 0,
      sop nb 25 (.load 3 (.tmp 24)) 3,
      sop nb 26 (.binOp .neq 3 (.tmp 21) (.tmp 25) 3) 4]) (
    .cond (.tmp 26) (
     .seq (
     .ops [sop nb 27 (.move (.tmp 0)) 26,
       sop nb 28 (.move (.tmp 5)) 3,
       sop nb 29 (.indexAddr 26 (.tmp 27) (.tmp 28)) 0,
       sop nb 30 (.load 3 (.tmp 29)) 3,
       sop nb 31 (.move (.tmp 1)) 26,
       sop nb 32 (.move (.tmp 5)) 3,
       sop nb 33 (.indexAddr 26 (.tmp 31) (.tmp 32)) 0,
       sop nb 34 (.load 3 (.tmp 33)) 3,
       sop nb 35 (.binOp .sub 3 (.tmp 30) (.tmp 34) 3) 3,
       sop nb 4 (.assign (.tmp 35)) 3]) (
     .ret)) (
     .skip)))) (
   .ops [sop nb 16 (.move (.tmp 5)) 3,
     sop nb 17 (.binOp .add 3 (.tmp 16) (.const (.int .i64 1)) 3) 3,
     sop nb 5 (.assign (.tmp 17)) 3])))))) (
 .seq (
 .ops [sop nb 36 (.move (.tmp 0)) 26,
 sop nb 37 (.call { callee := .builtin .len, args := #[(.tmp 36)], argTypes := #[26] }) 3,
 sop nb 38 (.move (.tmp 1)) 26,
 sop nb 39 (.call { callee := .builtin .len, args := #[(.tmp 38)], argTypes := #[26] }) 3,
 sop nb 40 (.binOp .sub 3 (.tmp 37) (.tmp 39) 3) 3,
 sop nb 4 (.assign (.tmp 40)) 3]) (
 .ret)))
@[go_sem] theorem rs62 : Go.Proofs.Try.f62.results.toList = [.tmp 4] := by kernel_rfl
theorem en62 : Enters Q 62 := enters_of Go.Proofs.Try.func62 rfl (by kernel_rfl)
theorem k62 (nb : Nat) : sk nb Go.Proofs.Try.f62.ntmps (Go.Proofs.Try.f62.body.getD .skip) = some (c62 nb) := by kernel_rfl
/-- smalto/stencil.laying -/
noncomputable def c64 (nb : Nat) : SC :=
 .seq (
 .ops [sop nb 3 (.box 24 (.tmp 0)) 0,
 sop nb 6 (.assign (.const (.pointer none))) 108,
 sop nb 7 (.assign (.const (.int .i64 0))) 34]) (
 .seq (
 .ops [sop nb 11 (.load 24 (.tmp 3)) 24,
 sop nb 12 (.call { callee := .value (.func 82), args := #[(.tmp 11)], argTypes := #[24] }) 117,
 sop nb 10 (.move (.tmp 12)) 117,
 sop nb 13 (.extract (.tmp 10) 0) 108,
 sop nb 14 (.extract (.tmp 10) 1) 34,
 sop nb 8 (.assign (.tmp 13)) 108,
 sop nb 9 (.assign (.tmp 14)) 34]) (
 .seq (
 .block 0 (
  .seq (
  .ops [sop nb 16 (.move (.tmp 9)) 34,
    sop nb 17 (.binOp .neq 34 (.tmp 16) (.const (.int .i64 0)) 34) 4,
    sop nb 15 (.assign (.tmp 17)) 4]) (
  .cond (.tmp 15) (
   .seq (
   .ops [sop nb 18 (.move (.tmp 9)) 34,
     sop nb 6 (.assign (.const (.pointer none))) 108,
     sop nb 7 (.assign (.tmp 18)) 34]) (
   .ret)) (
   .seq (
   .ops [sop nb 20 (.move (.tmp 2)) 25,
     sop nb 21 (.call { callee := .builtin .len, args := #[(.tmp 20)], argTypes := #[25] }) 3,
     sop nb 22 (.binOp .gtr 3 (.tmp 21) (.const (.int .i64 5)) 3) 4,
     sop nb 19 (.assign (.tmp 22)) 4]) (
   .cond (.tmp 19) (
    .seq (
    .ops [sop nb 6 (.assign (.const (.pointer none))) 108,
      sop nb 7 (.assign (.const (.int .i64 5))) 34]) (
    .ret)) (
    .seq (
    .seq (
    .ops [sop nb 24 (.move (.tmp 8)) 108,
      sop nb 25 (.move (.tmp 1)) 26,
      sop nb 26 (.call { callee := .value (.func 89), args := #[(.tmp 24), (.tmp 25), (.const (.int .i64 5))], argTypes := #[108, 26, 3] }) 4,
      sop nb 27 (.unOp .not 4 (.tmp 26)) 4,
      sop nb 23 (.assign (.tmp 27)) 4]) (
    .cond (.tmp 23) (
     .skip) (
     .ops [sop nb 28 (.move (.tmp 8)) 108,
       sop nb 29 (.move (.tmp 2)) 25,
       sop nb 30 (.call { callee := .value (.func 85), args := #[(.tmp 28), (.tmp 29)], argTypes := #[108, 25] }) 4,
       sop nb 31 (.unOp .not 4 (.tmp 30)) 4,
       sop nb 23 (.assign (.tmp 31)) 4]))) (
    .cond (.tmp 23) (
     .seq (
     .ops [sop nb 6 (.assign (.const (.pointer none))) 108,
       sop nb 7 (.assign (.const (.int .i64 4))) 34]) (
     .ret)) (
     .skip)))))))) (
 .seq (
 .ops [sop nb 32 (.move (.tmp 8)) 108,
 sop nb 6 (.assign (.tmp 32)) 108,
 sop nb 7 (.assign (.const (.int .i64 0))) 34]) (
 .ret))))
@[go_sem] theorem rs64 : Go.Proofs.Try.f64.results.toList = [.tmp 6, .tmp 7] := by kernel_rfl
theorem en64 : Enters Q 64 := enters_of Go.Proofs.Try.func64 rfl (by kernel_rfl)
theorem k64 (nb : Nat) : sk nb Go.Proofs.Try.f64.ntmps (Go.Proofs.Try.f64.body.getD .skip) = some (c64 nb) := by kernel_rfl
/-- (*smalto/stencil.alphabet).lack -/
noncomputable def c65 (nb : Nat) : SC :=
 .seq (
 .ops [sop nb 6 (.assign (.const (.slice none 0 0))) 26]) (
 .seq (
 .ops [sop nb 12 (.move (.tmp 0)) 108,
 sop nb 13 (.move (.tmp 1)) 26,
 sop nb 14 (.call { callee := .value (.func 70), args := #[(.tmp 12), (.tmp 13)], argTypes := #[108, 26] }) 125,
 sop nb 15 (.move (.tmp 0)) 108,
 sop nb 16 (.move (.tmp 2)) 26,
 sop nb 17 (.call { callee := .value (.func 71), args := #[(.tmp 15), (.tmp 16)], argTypes := #[108, 26] }) 125,
 sop nb 7 (.alloc 125) 0,
 sop nb 8 (.alloc 125) 0,
   ⟨none, (.store 125 (.tmp 7) (.tmp 14)), 0, none, none⟩,
   ⟨none, (.store 125 (.tmp 8) (.tmp 17)), 0, none, none⟩]) (
 .seq (
 .seq (
 .ops [sop nb 18 (.move (.tmp 2)) 26,
 sop nb 19 (.call { callee := .builtin .len, args := #[(.tmp 18)], argTypes := #[26] }) 3,
 sop nb 20 (.move (.const (.int .i64 0))) 3]) (
 .block 0 (
  .loop (
   .seq (
   .ops [sop nb 21 (.binOp .lss 3 (.tmp 20) (.tmp 19) 3) 0]) (
   .seq (
   .cond (.tmp 21) (
    .skip) (
    .exit 0)) (
   .seq (
   .block 1 (
    .seq (
    .ops [sop nb 22 (.move (.tmp 20)) 3,
      sop nb 23 (.indexAddr 26 (.tmp 18) (.tmp 20)) 0,
      sop nb 24 (.load 3 (.tmp 23)) 3,
      sop nb 9 (.assign (.tmp 22)) 3,
      sop nb 10 (.assign (.tmp 24)) 3]) (
    .seq (
    .ops [sop nb 25 (.move (.tmp 0)) 108,
      sop nb 26 (.move (.tmp 10)) 3,
      sop nb 27 (.call { callee := .value (.func 67), args := #[(.tmp 25), (.tmp 26)], argTypes := #[108, 3] }) 3,
      sop nb 11 (.assign (.tmp 27)) 3]) (
    .seq (
    .ops [sop nb 28 (.move (.tmp 11)) 3,
      sop nb 29 (.indexAddr 125 (.tmp 8) (.tmp 28)) 0,
      sop nb 30 (.load 3 (.tmp 29)) 3,
      sop nb 31 (.move (.tmp 11)) 3,
      sop nb 32 (.indexAddr 125 (.tmp 7) (.tmp 31)) 0,
      sop nb 33 (.load 3 (.tmp 32)) 3,
      sop nb 34 (.binOp .gtr 3 (.tmp 30) (.tmp 33) 3) 4]) (
    .cond (.tmp 34) (
     .seq (
     .ops [sop nb 35 (.move (.tmp 6)) 26,
       sop nb 36 (.move (.tmp 9)) 3,
       sop nb 37 (.buildSlice 26 1 #[(0, (.tmp 36))]) 26,
       sop nb 38 (.call { callee := .builtin .append, args := #[(.tmp 35), (.tmp 37)], argTypes := #[26, 26] }) 26,
       sop nb 6 (.assign (.tmp 38)) 26]) (
     .ops [sop nb 39 (.move (.tmp 11)) 3,
       sop nb 40 (.indexAddr 125 (.tmp 8) (.tmp 39)) 0,
       sop nb 41 (.load 3 (.tmp 40)) 3,
       sop nb 42 (.binOp .sub 3 (.tmp 41) (.const (.int .i64 1)) 3) 3,
       sop nb 43 (.indexAddr 125 (.tmp 8) (.tmp 39)) 0,
       ⟨none, (.store 3 (.tmp 43) (.tmp 42)), 0, none, none⟩])) (
     .skip)))))) (
   .ops [sop nb 44 (.binOp .add 3 (.tmp 20) (.const (.int .i64 1)) 3) 3,
     sop nb 20 (.move (.tmp 44)) 3]))))))) (
 .seq (
 .ops [sop nb 45 (.move (.tmp 6)) 26,
 sop nb 6 (.assign (.tmp 45)) 26]) (
 .ret))))
@[go_sem] theorem rs65 : Go.Proofs.Try.f65.results.toList = [.tmp 6] := by kernel_rfl
theorem en65 : Enters Q 65 := enters_of Go.Proofs.Try.func65 rfl (by kernel_rfl)
theorem k65 (nb : Nat) : sk nb Go.Proofs.Try.f65.ntmps (Go.Proofs.Try.f65.body.getD .skip) = some (c65 nb) := by kernel_rfl
/-- slices.Clone[[]int,int] -/
noncomputable def c66 (nb : Nat) : SC :=
 .seq (
 .ops [sop nb 2 (.assign (.const (.slice none 0 0))) 26]) (
 .seq (
 .seq (
 .ops [sop nb 3 (.move (.tmp 0)) 26,
 sop nb 4 (.binOp .eql 26 (.tmp 3) (.const (.slice none 0 0)) 26) 4]) (
 .cond (.tmp 4) (
  .seq (
  .ops [sop nb 2 (.assign (.const (.slice none 0 0))) 26]) (
  .ret)) (
  .skip))) (
 .seq (
 .ops [sop nb 5 (.buildSlice 26 0 #[]) 26,
 sop nb 6 (.move (.tmp 0)) 26,
 sop nb 7 (.call { callee := .builtin .append, args := #[(.tmp 5), (.tmp 6)], argTypes := #[26, 26] }) 26,
 sop nb 2 (.assign (.tmp 7)) 26]) (
 .ret)))
@[go_sem] theorem rs66 : Go.Proofs.Try.f66.results.toList = [.tmp 2] := by kernel_rfl
theorem en66 : Enters Q 66 := enters_of Go.Proofs.Try.func66 rfl (by kernel_rfl)
theorem k66 (nb : Nat) : sk nb Go.Proofs.Try.f66.ntmps (Go.Proofs.Try.f66.body.getD .skip) = some (c66 nb) := by kernel_rfl
/-- (*smalto/stencil.alphabet).pool -/
noncomputable def c67 (nb : Nat) : SC :=
 .seq (
 .ops [sop nb 4 (.assign (.const (.int .i64 0))) 3]) (
 .seq (
 .seq (
 .ops [sop nb 6 (.move (.tmp 0)) 108,
 sop nb 7 (.move (.tmp 1)) 3,
 sop nb 8 (.nilCheck (.tmp 6)) 0,
 sop nb 9 (.fieldAddr 123 (.tmp 8) 1) 0,
 sop nb 10 (.indexAddr 120 (.tmp 9) (.tmp 7)) 0,
 sop nb 11 (.load 3 (.tmp 10)) 3,
 sop nb 5 (.assign (.tmp 11)) 3]) (
 .seq (
 .ops [sop nb 12 (.move (.tmp 5)) 3,
 sop nb 13 (.binOp .neq 3 (.tmp 12) (.const (.int .i64 (-1))) 3) 4]) (
 .cond (.tmp 13) (
  .seq (
  .ops [sop nb 14 (.move (.tmp 1)) 3,
    sop nb 15 (.move (.tmp 5)) 3,
    sop nb 16 (.call { callee := .builtin .min, args := #[(.tmp 14), (.tmp 15)], argTypes := #[3, 3] }) 3,
    sop nb 4 (.assign (.tmp 16)) 3]) (
  .ret)) (
  .skip)))) (
 .seq (
 .ops [sop nb 17 (.move (.tmp 1)) 3,
 sop nb 4 (.assign (.tmp 17)) 3]) (
 .ret)))
@[go_sem] theorem rs67 : Go.Proofs.Try.f67.results.toList = [.tmp 4] := by kernel_rfl
theorem en67 : Enters Q 67 := enters_of Go.Proofs.Try.func67 rfl (by kernel_rfl)
theorem k67 (nb : Nat) : sk nb Go.Proofs.Try.f67.ntmps (Go.Proofs.Try.f67.body.getD .skip) = some (c67 nb) := by kernel_rfl
/-- (*smalto/stencil.alphabet).has -/
noncomputable def c70 (nb : Nat) : SC :=
 .seq (
 .ops [sop nb 4 (.alloc 125) 0]) (
 .seq (
 .seq (
 .ops [sop nb 7 (.move (.tmp 1)) 26,
 sop nb 8 (.call { callee := .builtin .len, args := #[(.tmp 7)], argTypes := #[26] }) 3,
 sop nb 9 (.move (.const (.int .i64 0))) 3]) (
 .block 0 (
  .loop (
   .seq (
   .ops [sop nb 10 (.binOp .lss 3 (.tmp 9) (.tmp 8) 3) 0]) (
   .seq (
   .cond (.tmp 10) (
    .skip) (
    .exit 0)) (
   .seq (
   .block 1 (
    .seq (
    .ops [sop nb 11 (.move (.tmp 9)) 3,
      sop nb 12 (.indexAddr 26 (.tmp 7) (.tmp 9)) 0,
      sop nb 13 (.load 3 (.tmp 12)) 3,
      sop nb 5 (.assign (.tmp 11)) 3,
      sop nb 6 (.assign (.tmp 13)) 3]) (
    .ops [sop nb 14 (.move (.tmp 0)) 108,
      sop nb 15 (.move (.tmp 5)) 3,
      sop nb 16 (.call { callee := .value (.func 67), args := #[(.tmp 14), (.tmp 15)], argTypes := #[108, 3] }) 3,
      sop nb 17 (.indexAddr 125 (.tmp 4) (.tmp 16)) 0,
      sop nb 18 (.load 3 (.tmp 17)) 3,
      sop nb 19 (.move (.tmp 6)) 3,
      sop nb 20 (.binOp .add 3 (.tmp 18) (.tmp 19) 3) 3,
      sop nb 21 (.indexAddr 125 (.tmp 4) (.tmp 16)) 0,
      ⟨none, (.store 3 (.tmp 21) (.tmp 20)), 0, none, none⟩]))) (
   .ops [sop nb 22 (.binOp .add 3 (.tmp 9) (.const (.int .i64 1)) 3) 3,
     sop nb 9 (.move (.tmp 22)) 3]))))))) (
 .seq (
 .ops [sop nb 23 (.load 125 (.tmp 4)) 125,
   ⟨none, (.store 125 (.tmp 4) (.tmp 23)), 0, none, none⟩]) (
 .ret)))
@[go_sem] theorem rs70 : Go.Proofs.Try.f70.results.toList = [.cell 4 125] := by kernel_rfl
theorem en70 : Enters Q 70 := enters_of Go.Proofs.Try.func70 rfl (by kernel_rfl)
theorem k70 (nb : Nat) : sk nb Go.Proofs.Try.f70.ntmps (Go.Proofs.Try.f70.body.getD .skip) = some (c70 nb) := by kernel_rfl
/-- (*smalto/stencil.alphabet).needs -/
noncomputable def c71 (nb : Nat) : SC :=
 .seq (
 .ops [sop nb 4 (.alloc 125) 0]) (
 .seq (
 .seq (
 .ops [sop nb 7 (.move (.tmp 1)) 26,
 sop nb 8 (.call { callee := .builtin .len, args := #[(.tmp 7)], argTypes := #[26] }) 3,
 sop nb 9 (.move (.const (.int .i64 0))) 3]) (
 .block 0 (
  .loop (
   .seq (
   .ops [sop nb 10 (.binOp .lss 3 (.tmp 9) (.tmp 8) 3) 0]) (
   .seq (
   .cond (.tmp 10) (
    .skip) (
    .exit 0)) (
   .seq (
   .block 1 (
    .seq (
    .ops [sop nb 11 (.indexAddr 26 (.tmp 7) (.tmp 9)) 0,
      sop nb 12 (.load 3 (.tmp 11)) 3,
      sop nb 6 (.assign (.tmp 12)) 3]) (
    .ops [sop nb 13 (.move (.tmp 0)) 108,
      sop nb 14 (.move (.tmp 6)) 3,
      sop nb 15 (.call { callee := .value (.func 67), args := #[(.tmp 13), (.tmp 14)], argTypes := #[108, 3] }) 3,
      sop nb 16 (.indexAddr 125 (.tmp 4) (.tmp 15)) 0,
      sop nb 17 (.load 3 (.tmp 16)) 3,
      sop nb 18 (.binOp .add 3 (.tmp 17) (.const (.int .i64 1)) 3) 3,
      sop nb 19 (.indexAddr 125 (.tmp 4) (.tmp 15)) 0,
      ⟨none, (.store 3 (.tmp 19) (.tmp 18)), 0, none, none⟩]))) (
   .ops [sop nb 20 (.binOp .add 3 (.tmp 9) (.const (.int .i64 1)) 3) 3,
     sop nb 9 (.move (.tmp 20)) 3]))))))) (
 .seq (
 .ops [sop nb 21 (.load 125 (.tmp 4)) 125,
   ⟨none, (.store 125 (.tmp 4) (.tmp 21)), 0, none, none⟩]) (
 .ret)))
@[go_sem] theorem rs71 : Go.Proofs.Try.f71.results.toList = [.cell 4 125] := by kernel_rfl
theorem en71 : Enters Q 71 := enters_of Go.Proofs.Try.func71 rfl (by kernel_rfl)
theorem k71 (nb : Nat) : sk nb Go.Proofs.Try.f71.ntmps (Go.Proofs.Try.f71.body.getD .skip) = some (c71 nb) := by kernel_rfl
end S07

