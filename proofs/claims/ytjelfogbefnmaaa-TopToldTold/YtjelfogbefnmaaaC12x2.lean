/- A part of the proof: C12x2. -/
import Derived.Test.YtjelfogbefnmaaaF12
set_option linter.unusedVariables false
set_option linter.unusedSimpArgs false
set_option maxRecDepth 20000
namespace S12
open Go Abs
/-- smalto/ledger.isSpan -/
noncomputable def c45 (nb : Nat) : SC :=
 .seq (
 .ops [⟨some 5, (.box 38 (.tmp 2)), 0, none, some (nb + 5)⟩,
   ⟨some 6, (.assign (.const (.bool false))), 4, none, some (nb + 6)⟩]) (
 .seq (
 .ops [⟨some 7, (.move (.tmp 0)), 3, none, some (nb + 7)⟩,
   ⟨some 8, (.move (.tmp 1)), 3, none, some (nb + 8)⟩,
   ⟨some 9, (.fieldAddr 38 (.tmp 5) 0), 0, none, some (nb + 9)⟩,
   ⟨some 10, (.load 3 (.tmp 9)), 3, none, some (nb + 10)⟩,
   ⟨some 11, (.fieldAddr 38 (.tmp 5) 1), 0, none, some (nb + 11)⟩,
   ⟨some 12, (.load 3 (.tmp 11)), 3, none, some (nb + 12)⟩,
   ⟨some 13, (.buildSlice 29 2 #[(0, (.tmp 10)), (1, (.tmp 12))]), 29, none, some (nb + 13)⟩,
   ⟨some 14, (.call { callee := .value (.func 27), args := #[(.tmp 7), (.tmp 8), (.tmp 13)], argTypes := #[3, 3, 29] }), 4, none, some (nb + 14)⟩,
   ⟨some 15, (.move (.tmp 14)), 4, none, some (nb + 15)⟩,
   ⟨some 16, (.fieldAddr 38 (.tmp 5) 0), 0, some (15, true), some (nb + 16)⟩,
   ⟨some 17, (.load 3 (.tmp 16)), 3, some (15, true), some (nb + 17)⟩,
   ⟨some 18, (.fieldAddr 38 (.tmp 5) 1), 0, some (15, true), some (nb + 18)⟩,
   ⟨some 19, (.load 3 (.tmp 18)), 3, some (15, true), some (nb + 19)⟩,
   ⟨some 20, (.binOp .leq 3 (.tmp 17) (.tmp 19) 3), 4, some (15, true), some (nb + 20)⟩,
   ⟨some 21, (.pick (.tmp 15) (.tmp 20) (.const (.bool false))), 4, none, some (nb + 21)⟩,
   ⟨some 6, (.assign (.tmp 21)), 4, none, some (nb + 6)⟩]) (
 .ret))
@[go_sem] theorem rs45 : Go.Proofs.Try.f45.results.toList = [.tmp 6] := by kernel_rfl
theorem en45 : Enters Q 45 := enters_of Go.Proofs.Try.func45 rfl (by kernel_rfl)
theorem k45 (nb : Nat) : sk nb Go.Proofs.Try.f45.ntmps (Go.Proofs.Try.f45.body.getD .skip) = some (c45 nb) := by kernel_rfl
/-- (smalto/ledger.book).account -/
noncomputable def c46 (nb : Nat) : SC :=
 .seq (
 .ops [⟨some 3, (.box 78 (.tmp 0)), 0, none, some (nb + 3)⟩,
   ⟨some 6, (.alloc 85), 0, none, some (nb + 6)⟩]) (
 .seq (
 .opsD [⟨some 14, (.fieldAddr 78 (.tmp 3) 0), 0, none, some (nb + 14)⟩,
   ⟨some 15, (.fieldAddr 34 (.tmp 14) 0), 0, none, some (nb + 15)⟩,
   ⟨some 16, (.load 29 (.tmp 15)), 29, none, some (nb + 16)⟩,
   ⟨some 17, (.move (.tmp 1)), 3, none, some (nb + 17)⟩,
   ⟨some 18, (.indexAddr 29 (.tmp 16) (.tmp 17)), 0, none, some (nb + 18)⟩,
   ⟨some 19, (.load 3 (.tmp 18)), 3, none, some (nb + 19)⟩,
   ⟨some 20, (.fieldAddr 78 (.tmp 3) 0), 0, none, some (nb + 20)⟩,
   ⟨some 21, (.fieldAddr 34 (.tmp 20) 2), 0, none, some (nb + 21)⟩,
   ⟨some 22, (.load 31 (.tmp 21)), 31, none, some (nb + 22)⟩,
   ⟨some 23, (.call { callee := .builtin .len, args := #[(.tmp 22)], argTypes := #[31] }), 3, none, some (nb + 23)⟩,
   ⟨some 24, (.build 85 #[(0, (.tmp 19)), (3, (.tmp 23))]), 85, none, some (nb + 24)⟩,
   ⟨some 7, (.alloc 85), 0, none, some (nb + 7)⟩,
   ⟨none, (.store 85 (.tmp 7) (.tmp 24)), 0, none, none⟩] [(2, 11), (4, 11), (5, 11), (8, 11), (9, 11)]) (
 .seq (
 .seq (
 .ops [⟨some 25, (.fieldAddr 78 (.tmp 3) 0), 0, none, some (nb + 25)⟩,
   ⟨some 26, (.fieldAddr 34 (.tmp 25) 1), 0, none, some (nb + 26)⟩,
   ⟨some 27, (.load 30 (.tmp 26)), 30, none, some (nb + 27)⟩,
   ⟨some 28, (.call { callee := .builtin .len, args := #[(.tmp 27)], argTypes := #[30] }), 3, none, some (nb + 28)⟩,
   ⟨some 29, (.move (.const (.int .i64 0))), 3, none, some (nb + 29)⟩]) (
 .block 0 (
  .loop (
   .seq (
   .ops [⟨some 30, (.binOp .lss 3 (.tmp 29) (.tmp 28) 3), 0, none, some (nb + 30)⟩]) (
   .seq (
   .cond (.tmp 30) (
    .skip) (
    .exit 0)) (
   .seq (
   .block 1 (
    .seq (
    .ops [⟨some 31, (.indexAddr 30 (.tmp 27) (.tmp 29)), 0, none, some (nb + 31)⟩,
      ⟨some 32, (.load 92 (.tmp 31)), 92, none, some (nb + 32)⟩,
      ⟨some 9, (.alloc 92), 0, none, some (nb + 9)⟩,
      ⟨none, (.store 92 (.tmp 9) (.tmp 32)), 0, none, none⟩]) (
    .seq (
    .ops [⟨some 33, (.fieldAddr 92 (.tmp 9) 1), 0, none, some (nb + 33)⟩,
      ⟨some 34, (.load 3 (.tmp 33)), 3, none, some (nb + 34)⟩,
      ⟨some 35, (.move (.tmp 1)), 3, none, some (nb + 35)⟩,
      ⟨some 36, (.binOp .eql 3 (.tmp 34) (.tmp 35) 3), 4, none, some (nb + 36)⟩,
      ⟨some 37, (.move (.tmp 36)), 4, none, some (nb + 37)⟩,
      ⟨some 38, (.fieldAddr 92 (.tmp 9) 0), 0, some (37, true), some (nb + 38)⟩,
      ⟨some 39, (.load 3 (.tmp 38)), 3, some (37, true), some (nb + 39)⟩,
      ⟨some 40, (.move (.tmp 2)), 3, some (37, true), some (nb + 40)⟩,
      ⟨some 41, (.binOp .leq 3 (.tmp 39) (.tmp 40) 3), 4, some (37, true), some (nb + 41)⟩,
      ⟨some 42, (.pick (.tmp 37) (.tmp 41) (.const (.bool false))), 4, none, some (nb + 42)⟩]) (
    .cond (.tmp 42) (
     .ops [⟨some 43, (.fieldAddr 85 (.tmp 7) 0), 0, none, some (nb + 43)⟩,
       ⟨some 44, (.load 3 (.tmp 43)), 3, none, some (nb + 44)⟩,
       ⟨some 45, (.fieldAddr 92 (.tmp 9) 2), 0, none, some (nb + 45)⟩,
       ⟨some 46, (.load 3 (.tmp 45)), 3, none, some (nb + 46)⟩,
       ⟨some 47, (.binOp .add 3 (.tmp 44) (.tmp 46) 3), 3, none, some (nb + 47)⟩,
       ⟨some 48, (.fieldAddr 85 (.tmp 7) 0), 0, none, some (nb + 48)⟩,
       ⟨none, (.store 3 (.tmp 48) (.tmp 47)), 0, none, none⟩]) (
     .skip))))) (
   .ops [⟨some 49, (.binOp .add 3 (.tmp 29) (.const (.int .i64 1)) 3), 3, none, some (nb + 49)⟩,
     ⟨some 29, (.move (.tmp 49)), 3, none, some (nb + 29)⟩]))))))) (
 .seq (
 .seq (
 .ops [⟨some 50, (.fieldAddr 78 (.tmp 3) 0), 0, none, some (nb + 50)⟩,
   ⟨some 51, (.fieldAddr 34 (.tmp 50) 2), 0, none, some (nb + 51)⟩,
   ⟨some 52, (.load 31 (.tmp 51)), 31, none, some (nb + 52)⟩,
   ⟨some 53, (.call { callee := .builtin .len, args := #[(.tmp 52)], argTypes := #[31] }), 3, none, some (nb + 53)⟩,
   ⟨some 54, (.move (.const (.int .i64 0))), 3, none, some (nb + 54)⟩]) (
 .block 2 (
  .loop (
   .seq (
   .ops [⟨some 55, (.binOp .lss 3 (.tmp 54) (.tmp 53) 3), 0, none, some (nb + 55)⟩]) (
   .seq (
   .cond (.tmp 55) (
    .skip) (
    .exit 2)) (
   .seq (
   .block 3 (
    .seq (
    .ops [⟨some 56, (.move (.tmp 54)), 3, none, some (nb + 56)⟩,
      ⟨some 57, (.indexAddr 31 (.tmp 52) (.tmp 54)), 0, none, some (nb + 57)⟩,
      ⟨some 58, (.load 67 (.tmp 57)), 67, none, some (nb + 58)⟩,
      ⟨some 11, (.alloc 67), 0, none, some (nb + 11)⟩,
      ⟨some 10, (.assign (.tmp 56)), 3, none, some (nb + 10)⟩,
      ⟨none, (.store 67 (.tmp 11) (.tmp 58)), 0, none, none⟩]) (
    .ops [⟨some 59, (.move (.tmp 10)), 3, none, some (nb + 59)⟩,
      ⟨some 60, (.fieldAddr 67 (.tmp 11) 0), 0, none, some (nb + 60)⟩,
      ⟨some 61, (.load 40 (.tmp 60)), 40, none, some (nb + 61)⟩,
      ⟨some 62, (.move (.tmp 1)), 3, none, some (nb + 62)⟩,
      ⟨some 63, (.indexAddr 40 (.tmp 61) (.tmp 62)), 0, none, some (nb + 63)⟩,
      ⟨some 64, (.load 38 (.tmp 63)), 38, none, some (nb + 64)⟩,
      ⟨some 65, (.fieldAddr 85 (.tmp 7) 2), 0, none, some (nb + 65)⟩,
      ⟨some 66, (.indexAddr 83 (.tmp 65) (.tmp 59)), 0, none, some (nb + 66)⟩,
      ⟨none, (.store 38 (.tmp 66) (.tmp 64)), 0, none, none⟩]))) (
   .ops [⟨some 67, (.binOp .add 3 (.tmp 54) (.const (.int .i64 1)) 3), 3, none, some (nb + 67)⟩,
     ⟨some 54, (.move (.tmp 67)), 3, none, some (nb + 54)⟩]))))))) (
 .seq (
 .seq (
 .ops [⟨some 68, (.fieldAddr 78 (.tmp 3) 0), 0, none, some (nb + 68)⟩,
   ⟨some 69, (.fieldAddr 34 (.tmp 68) 3), 0, none, some (nb + 69)⟩,
   ⟨some 70, (.load 32 (.tmp 69)), 32, none, some (nb + 70)⟩,
   ⟨some 71, (.call { callee := .builtin .len, args := #[(.tmp 70)], argTypes := #[32] }), 3, none, some (nb + 71)⟩,
   ⟨some 72, (.move (.const (.int .i64 0))), 3, none, some (nb + 72)⟩]) (
 .block 4 (
  .loop (
   .seq (
   .ops [⟨some 73, (.binOp .lss 3 (.tmp 72) (.tmp 71) 3), 0, none, some (nb + 73)⟩]) (
   .seq (
   .cond (.tmp 73) (
    .skip) (
    .exit 4)) (
   .seq (
   .block 5 (
    .seq (
    .ops [⟨some 74, (.indexAddr 32 (.tmp 70) (.tmp 72)), 0, none, some (nb + 74)⟩,
      ⟨some 75, (.load 69 (.tmp 74)), 69, none, some (nb + 75)⟩,
      ⟨some 13, (.alloc 69), 0, none, some (nb + 13)⟩,
      ⟨none, (.store 69 (.tmp 13) (.tmp 75)), 0, none, none⟩]) (
    .seq (
    .ops [⟨some 76, (.fieldAddr 69 (.tmp 13) 0), 0, none, some (nb + 76)⟩,
      ⟨some 77, (.load 3 (.tmp 76)), 3, none, some (nb + 77)⟩,
      ⟨some 78, (.move (.tmp 2)), 3, none, some (nb + 78)⟩,
      ⟨some 79, (.binOp .leq 3 (.tmp 77) (.tmp 78) 3), 4, none, some (nb + 79)⟩]) (
    .cond (.tmp 79) (
     .ops [⟨some 80, (.fieldAddr 69 (.tmp 13) 1), 0, none, some (nb + 80)⟩,
       ⟨some 81, (.load 3 (.tmp 80)), 3, none, some (nb + 81)⟩,
       ⟨some 82, (.fieldAddr 85 (.tmp 7) 1), 0, none, some (nb + 82)⟩,
       ⟨some 83, (.indexAddr 82 (.tmp 82) (.tmp 81)), 0, none, some (nb + 83)⟩,
       ⟨some 84, (.load 3 (.tmp 83)), 3, none, some (nb + 84)⟩,
       ⟨some 85, (.fieldAddr 69 (.tmp 13) 2), 0, none, some (nb + 85)⟩,
       ⟨some 86, (.load 3 (.tmp 85)), 3, none, some (nb + 86)⟩,
       ⟨some 87, (.binOp .add 3 (.tmp 84) (.tmp 86) 3), 3, none, some (nb + 87)⟩,
       ⟨some 88, (.fieldAddr 85 (.tmp 7) 1), 0, none, some (nb + 88)⟩,
       ⟨some 89, (.indexAddr 82 (.tmp 88) (.tmp 81)), 0, none, some (nb + 89)⟩,
       ⟨none, (.store 3 (.tmp 89) (.tmp 87)), 0, none, none⟩]) (
     .skip))))) (
   .ops [⟨some 90, (.binOp .add 3 (.tmp 72) (.const (.int .i64 1)) 3), 3, none, some (nb + 90)⟩,
     ⟨some 72, (.move (.tmp 90)), 3, none, some (nb + 72)⟩]))))))) (
 .seq (
 .ops [⟨some 91, (.load 85 (.tmp 7)), 85, none, some (nb + 91)⟩,
   ⟨none, (.store 85 (.tmp 6) (.tmp 91)), 0, none, none⟩]) (
 .ret))))))
@[go_sem] theorem rs46 : Go.Proofs.Try.f46.results.toList = [.cell 6 85] := by kernel_rfl
theorem en46 : Enters Q 46 := enters_of Go.Proofs.Try.func46 rfl (by kernel_rfl)
theorem k46 (nb : Nat) : sk nb Go.Proofs.Try.f46.ntmps (Go.Proofs.Try.f46.body.getD .skip) = some (c46 nb) := by kernel_rfl
/-- smalto/ledger.within$1 -/
noncomputable def c47 (nb : Nat) : SC :=
 .seq (
 .ops [⟨some 4, (.assign (.const (.bool false))), 4, none, some (nb + 4)⟩]) (
 .seq (
 .ops [⟨some 5, (.move (.tmp 0)), 3, none, some (nb + 5)⟩,
   ⟨some 6, (.load 3 (.tmp 1)), 3, none, some (nb + 6)⟩,
   ⟨some 7, (.binOp .lss 3 (.tmp 5) (.tmp 6) 3), 4, none, some (nb + 7)⟩,
   ⟨some 8, (.move (.tmp 7)), 4, none, some (nb + 8)⟩,
   ⟨some 9, (.move (.tmp 0)), 3, some (8, false), some (nb + 9)⟩,
   ⟨some 10, (.load 3 (.tmp 2)), 3, some (8, false), some (nb + 10)⟩,
   ⟨some 11, (.binOp .gtr 3 (.tmp 9) (.tmp 10) 3), 4, some (8, false), some (nb + 11)⟩,
   ⟨some 12, (.pick (.tmp 8) (.const (.bool true)) (.tmp 11)), 4, none, some (nb + 12)⟩,
   ⟨some 4, (.assign (.tmp 12)), 4, none, some (nb + 4)⟩]) (
 .ret))
@[go_sem] theorem rs47 : Go.Proofs.Try.f47.results.toList = [.tmp 4] := by kernel_rfl
theorem en47 : Enters Q 47 := enters_of Go.Proofs.Try.func47 rfl (by kernel_rfl)
theorem k47 (nb : Nat) : sk nb Go.Proofs.Try.f47.ntmps (Go.Proofs.Try.f47.body.getD .skip) = some (c47 nb) := by kernel_rfl
/-- (smalto/ledger.book).days$1 -/
noncomputable def c48 (nb : Nat) : SC :=
 .seq (
 .ops [⟨some 5, (.move (.const (.int .i64 0))), 3, none, some (nb + 5)⟩]) (
 .block 0 (
  .loop (
   .seq (
   .ops [⟨some 6, (.binOp .lss 3 (.tmp 5) (.const (.int .i64 366)) 3), 4, none, some (nb + 6)⟩]) (
   .seq (
   .cond (.tmp 6) (
    .skip) (
    .exit 0)) (
   .seq (
   .block 1 (
    .seq (
    .ops [⟨some 7, (.move (.tmp 5)), 3, none, some (nb + 7)⟩,
      ⟨some 4, (.assign (.tmp 7)), 3, none, some (nb + 4)⟩]) (
    .seq (
    .ops [⟨some 8, (.move (.tmp 0)), 122, none, some (nb + 8)⟩,
      ⟨some 9, (.move (.tmp 4)), 3, none, some (nb + 9)⟩,
      ⟨some 10, (.load 78 (.tmp 1)), 78, none, some (nb + 10)⟩,
      ⟨some 11, (.load 3 (.tmp 2)), 3, none, some (nb + 11)⟩,
      ⟨some 12, (.move (.tmp 4)), 3, none, some (nb + 12)⟩,
      ⟨some 13, (.call { callee := .value (.func 46), args := #[(.tmp 10), (.tmp 11), (.tmp 12)], argTypes := #[78, 3, 3] }), 85, none, some (nb + 13)⟩,
      ⟨some 14, (.call { callee := .value (.func 25), args := #[(.tmp 13)], argTypes := #[85] }), 38, none, some (nb + 14)⟩,
      ⟨some 15, (.call { callee := .value (.tmp 8), args := #[(.tmp 9), (.tmp 14)], argTypes := #[3, 38] }), 4, none, some (nb + 15)⟩,
      ⟨some 16, (.unOp .not 4 (.tmp 15)), 4, none, some (nb + 16)⟩]) (
    .cond (.tmp 16) (
     .ret) (
     .skip))))) (
   .ops [⟨some 17, (.binOp .add 3 (.tmp 5) (.const (.int .i64 1)) 3), 3, none, some (nb + 17)⟩,
     ⟨some 5, (.move (.tmp 17)), 3, none, some (nb + 5)⟩]))))))
@[go_sem] theorem rs48 : Go.Proofs.Try.f48.results.toList = [] := by kernel_rfl
theorem en48 : Enters Q 48 := enters_of Go.Proofs.Try.func48 rfl (by kernel_rfl)
theorem k48 (nb : Nat) : sk nb Go.Proofs.Try.f48.ntmps (Go.Proofs.Try.f48.body.getD .skip) = some (c48 nb) := by kernel_rfl
/-- slices.SortStableFunc[[]int,int] -/
noncomputable def c49 (nb : Nat) : SC :=
 .ops [⟨some 4, (.move (.tmp 0)), 29, none, some (nb + 4)⟩,
   ⟨some 5, (.move (.tmp 0)), 29, none, some (nb + 5)⟩,
   ⟨some 6, (.call { callee := .builtin .len, args := #[(.tmp 5)], argTypes := #[29] }), 3, none, some (nb + 6)⟩,
   ⟨some 7, (.move (.tmp 1)), 124, none, some (nb + 7)⟩,
   ⟨some 8, (.call { callee := .value (.func 67), args := #[(.tmp 4), (.tmp 6), (.tmp 7)], argTypes := #[29, 3, 124] }), 0, none, some (nb + 8)⟩]
@[go_sem] theorem rs49 : Go.Proofs.Try.f49.results.toList = [] := by kernel_rfl
theorem en49 : Enters Q 49 := enters_of Go.Proofs.Try.func49 rfl (by kernel_rfl)
theorem k49 (nb : Nat) : sk nb Go.Proofs.Try.f49.ntmps (Go.Proofs.Try.f49.body.getD .skip) = some (c49 nb) := by kernel_rfl
/-- smalto/ledger.Share$1 -/
noncomputable def c50 (nb : Nat) : SC :=
 .seq (
 .ops [⟨some 7, (.assign (.const (.int .i64 0))), 3, none, some (nb + 7)⟩]) (
 .seq (
 .ops [⟨some 8, (.load 3 (.tmp 2)), 3, none, some (nb + 8)⟩,
   ⟨some 9, (.load 29 (.tmp 3)), 29, none, some (nb + 9)⟩,
   ⟨some 10, (.move (.tmp 1)), 3, none, some (nb + 10)⟩,
   ⟨some 11, (.indexAddr 29 (.tmp 9) (.tmp 10)), 0, none, some (nb + 11)⟩,
   ⟨some 12, (.load 3 (.tmp 11)), 3, none, some (nb + 12)⟩,
   ⟨some 13, (.binOp .mul 3 (.tmp 8) (.tmp 12) 3), 3, none, some (nb + 13)⟩,
   ⟨some 14, (.load 3 (.tmp 4)), 3, none, some (nb + 14)⟩,
   ⟨some 15, (.binOp .rem 3 (.tmp 13) (.tmp 14) 3), 3, none, some (nb + 15)⟩,
   ⟨some 16, (.load 3 (.tmp 2)), 3, none, some (nb + 16)⟩,
   ⟨some 17, (.load 29 (.tmp 3)), 29, none, some (nb + 17)⟩,
   ⟨some 18, (.move (.tmp 0)), 3, none, some (nb + 18)⟩,
   ⟨some 19, (.indexAddr 29 (.tmp 17) (.tmp 18)), 0, none, some (nb + 19)⟩,
   ⟨some 20, (.load 3 (.tmp 19)), 3, none, some (nb + 20)⟩,
   ⟨some 21, (.binOp .mul 3 (.tmp 16) (.tmp 20) 3), 3, none, some (nb + 21)⟩,
   ⟨some 22, (.load 3 (.tmp 4)), 3, none, some (nb + 22)⟩,
   ⟨some 23, (.binOp .rem 3 (.tmp 21) (.tmp 22) 3), 3, none, some (nb + 23)⟩,
   ⟨some 24, (.call { callee := .value (.func 51), args := #[(.tmp 15), (.tmp 23)], argTypes := #[3, 3] }), 3, none, some (nb + 24)⟩,
   ⟨some 7, (.assign (.tmp 24)), 3, none, some (nb + 7)⟩]) (
 .ret))
@[go_sem] theorem rs50 : Go.Proofs.Try.f50.results.toList = [.tmp 7] := by kernel_rfl
theorem en50 : Enters Q 50 := enters_of Go.Proofs.Try.func50 rfl (by kernel_rfl)
theorem k50 (nb : Nat) : sk nb Go.Proofs.Try.f50.ntmps (Go.Proofs.Try.f50.body.getD .skip) = some (c50 nb) := by kernel_rfl
/-- cmp.Compare[int] -/
noncomputable def c51 (nb : Nat) : SC :=
 .seq (
 .ops [⟨some 4, (.assign (.const (.int .i64 0))), 3, none, some (nb + 4)⟩]) (
 .seq (
 .ops [⟨some 7, (.move (.tmp 0)), 3, none, some (nb + 7)⟩,
   ⟨some 8, (.call { callee := .value (.func 68), args := #[(.tmp 7)], argTypes := #[3] }), 4, none, some (nb + 8)⟩,
   ⟨some 5, (.assign (.tmp 8)), 4, none, some (nb + 5)⟩]) (
 .seq (
 .ops [⟨some 9, (.move (.tmp 1)), 3, none, some (nb + 9)⟩,
   ⟨some 10, (.call { callee := .value (.func 68), args := #[(.tmp 9)], argTypes := #[3] }), 4, none, some (nb + 10)⟩,
   ⟨some 6, (.assign (.tmp 10)), 4, none, some (nb + 6)⟩]) (
 .seq (
 .seq (
 .ops [⟨some 11, (.move (.tmp 5)), 4, none, some (nb + 11)⟩]) (
 .cond (.tmp 11) (
  .seq (
  .seq (
  .ops [⟨some 12, (.move (.tmp 6)), 4, none, some (nb + 12)⟩]) (
  .cond (.tmp 12) (
   .seq (
   .ops [⟨some 4, (.assign (.const (.int .i64 0))), 3, none, some (nb + 4)⟩]) (
   .ret)) (
   .skip))) (
  .seq (
  .ops [⟨some 4, (.assign (.const (.int .i64 (-1)))), 3, none, some (nb + 4)⟩]) (
  .ret))) (
  .skip))) (
 .seq (
 .seq (
 .ops [⟨some 13, (.move (.tmp 6)), 4, none, some (nb + 13)⟩]) (
 .cond (.tmp 13) (
  .seq (
  .ops [⟨some 4, (.assign (.const (.int .i64 1))), 3, none, some (nb + 4)⟩]) (
  .ret)) (
  .skip))) (
 .seq (
 .seq (
 .ops [⟨some 14, (.move (.tmp 0)), 3, none, some (nb + 14)⟩,
   ⟨some 15, (.move (.tmp 1)), 3, none, some (nb + 15)⟩,
   ⟨some 16, (.binOp .lss 3 (.tmp 14) (.tmp 15) 3), 4, none, some (nb + 16)⟩]) (
 .cond (.tmp 16) (
  .seq (
  .ops [⟨some 4, (.assign (.const (.int .i64 (-1)))), 3, none, some (nb + 4)⟩]) (
  .ret)) (
  .skip))) (
 .seq (
 .seq (
 .ops [⟨some 17, (.move (.tmp 0)), 3, none, some (nb + 17)⟩,
   ⟨some 18, (.move (.tmp 1)), 3, none, some (nb + 18)⟩,
   ⟨some 19, (.binOp .gtr 3 (.tmp 17) (.tmp 18) 3), 4, none, some (nb + 19)⟩]) (
 .cond (.tmp 19) (
  .seq (
  .ops [⟨some 4, (.assign (.const (.int .i64 1))), 3, none, some (nb + 4)⟩]) (
  .ret)) (
  .skip))) (
 .seq (
 .ops [⟨some 4, (.assign (.const (.int .i64 0))), 3, none, some (nb + 4)⟩]) (
 .ret))))))))
@[go_sem] theorem rs51 : Go.Proofs.Try.f51.results.toList = [.tmp 4] := by kernel_rfl
theorem en51 : Enters Q 51 := enters_of Go.Proofs.Try.func51 rfl (by kernel_rfl)
theorem k51 (nb : Nat) : sk nb Go.Proofs.Try.f51.ntmps (Go.Proofs.Try.f51.body.getD .skip) = some (c51 nb) := by kernel_rfl
/-- smalto/coat.openWeighings$1 -/
noncomputable def c52 (nb : Nat) : SC :=
 .seq (
 .ops [⟨some 2, (.box 57 (.tmp 0)), 0, none, some (nb + 2)⟩,
   ⟨some 3, (.assign (.const (.bool false))), 4, none, some (nb + 3)⟩]) (
 .seq (
 .ops [⟨some 4, (.fieldAddr 71 (.tmp 1) 0), 0, none, some (nb + 4)⟩,
   ⟨some 5, (.fieldAddr 27 (.tmp 4) 0), 0, none, some (nb + 5)⟩,
   ⟨some 6, (.load 25 (.tmp 5)), 25, none, some (nb + 6)⟩,
   ⟨some 7, (.call { callee := .builtin .len, args := #[(.tmp 6)], argTypes := #[25] }), 3, none, some (nb + 7)⟩,
   ⟨some 8, (.binOp .sub 3 (.tmp 7) (.const (.int .i64 1)) 3), 3, none, some (nb + 8)⟩,
   ⟨some 9, (.fieldAddr 57 (.tmp 2) 0), 0, none, some (nb + 9)⟩,
   ⟨some 10, (.load 3 (.tmp 9)), 3, none, some (nb + 10)⟩,
   ⟨some 11, (.buildSlice 29 1 #[(0, (.tmp 10))]), 29, none, some (nb + 11)⟩,
   ⟨some 12, (.call { callee := .value (.func 19), args := #[(.const (.int .i64 0)), (.tmp 8), (.tmp 11)], argTypes := #[3, 3, 29] }), 4, none, some (nb + 12)⟩,
   ⟨some 13, (.unOp .not 4 (.tmp 12)), 4, none, some (nb + 13)⟩,
   ⟨some 14, (.move (.tmp 13)), 4, none, some (nb + 14)⟩,
   ⟨some 15, (.fieldAddr 57 (.tmp 2) 1), 0, some (14, false), some (nb + 15)⟩,
   ⟨some 16, (.load 3 (.tmp 15)), 3, some (14, false), some (nb + 16)⟩,
   ⟨some 17, (.buildSlice 29 1 #[(0, (.tmp 16))]), 29, some (14, false), some (nb + 17)⟩,
   ⟨some 18, (.call { callee := .value (.func 19), args := #[(.const (.int .i64 1)), (.const (.int .i64 200)), (.tmp 17)], argTypes := #[3, 3, 29] }), 4, some (14, false), some (nb + 18)⟩,
   ⟨some 19, (.unOp .not 4 (.tmp 18)), 4, some (14, false), some (nb + 19)⟩,
   ⟨some 20, (.pick (.tmp 14) (.const (.bool true)) (.tmp 19)), 4, none, some (nb + 20)⟩,
   ⟨some 21, (.move (.tmp 20)), 4, none, some (nb + 21)⟩,
   ⟨some 22, (.fieldAddr 57 (.tmp 2) 2), 0, some (21, false), some (nb + 22)⟩,
   ⟨some 23, (.load 38 (.tmp 22)), 38, some (21, false), some (nb + 23)⟩,
   ⟨some 24, (.call { callee := .value (.func 53), args := #[(.const (.int .i64 0)), (.const (.int .i64 20000)), (.tmp 23)], argTypes := #[3, 3, 38] }), 4, some (21, false), some (nb + 24)⟩,
   ⟨some 25, (.unOp .not 4 (.tmp 24)), 4, some (21, false), some (nb + 25)⟩,
   ⟨some 26, (.pick (.tmp 21) (.const (.bool true)) (.tmp 25)), 4, none, some (nb + 26)⟩,
   ⟨some 3, (.assign (.tmp 26)), 4, none, some (nb + 3)⟩]) (
 .ret))
@[go_sem] theorem rs52 : Go.Proofs.Try.f52.results.toList = [.tmp 3] := by kernel_rfl
theorem en52 : Enters Q 52 := enters_of Go.Proofs.Try.func52 rfl (by kernel_rfl)
theorem k52 (nb : Nat) : sk nb Go.Proofs.Try.f52.ntmps (Go.Proofs.Try.f52.body.getD .skip) = some (c52 nb) := by kernel_rfl
/-- smalto/coat.isSpan -/
noncomputable def c53 (nb : Nat) : SC :=
 .seq (
 .ops [⟨some 5, (.box 38 (.tmp 2)), 0, none, some (nb + 5)⟩,
   ⟨some 6, (.assign (.const (.bool false))), 4, none, some (nb + 6)⟩]) (
 .seq (
 .ops [⟨some 7, (.move (.tmp 0)), 3, none, some (nb + 7)⟩,
   ⟨some 8, (.move (.tmp 1)), 3, none, some (nb + 8)⟩,
   ⟨some 9, (.fieldAddr 38 (.tmp 5) 0), 0, none, some (nb + 9)⟩,
   ⟨some 10, (.load 3 (.tmp 9)), 3, none, some (nb + 10)⟩,
   ⟨some 11, (.fieldAddr 38 (.tmp 5) 1), 0, none, some (nb + 11)⟩,
   ⟨some 12, (.load 3 (.tmp 11)), 3, none, some (nb + 12)⟩,
   ⟨some 13, (.buildSlice 29 2 #[(0, (.tmp 10)), (1, (.tmp 12))]), 29, none, some (nb + 13)⟩,
   ⟨some 14, (.call { callee := .value (.func 19), args := #[(.tmp 7), (.tmp 8), (.tmp 13)], argTypes := #[3, 3, 29] }), 4, none, some (nb + 14)⟩,
   ⟨some 15, (.move (.tmp 14)), 4, none, some (nb + 15)⟩,
   ⟨some 16, (.fieldAddr 38 (.tmp 5) 0), 0, some (15, true), some (nb + 16)⟩,
   ⟨some 17, (.load 3 (.tmp 16)), 3, some (15, true), some (nb + 17)⟩,
   ⟨some 18, (.fieldAddr 38 (.tmp 5) 1), 0, some (15, true), some (nb + 18)⟩,
   ⟨some 19, (.load 3 (.tmp 18)), 3, some (15, true), some (nb + 19)⟩,
   ⟨some 20, (.binOp .leq 3 (.tmp 17) (.tmp 19) 3), 4, some (15, true), some (nb + 20)⟩,
   ⟨some 21, (.pick (.tmp 15) (.tmp 20) (.const (.bool false))), 4, none, some (nb + 21)⟩,
   ⟨some 6, (.assign (.tmp 21)), 4, none, some (nb + 6)⟩]) (
 .ret))
@[go_sem] theorem rs53 : Go.Proofs.Try.f53.results.toList = [.tmp 6] := by kernel_rfl
theorem en53 : Enters Q 53 := enters_of Go.Proofs.Try.func53 rfl (by kernel_rfl)
theorem k53 (nb : Nat) : sk nb Go.Proofs.Try.f53.ntmps (Go.Proofs.Try.f53.body.getD .skip) = some (c53 nb) := by kernel_rfl
/-- slices.ContainsFunc[[]smalto/api.CoatWeighed,smalto/api.CoatWeighed] -/
noncomputable def c54 (nb : Nat) : SC :=
 .seq (
 .ops [⟨some 4, (.assign (.const (.bool false))), 4, none, some (nb + 4)⟩]) (
 .seq (
 .ops [⟨some 5, (.move (.tmp 0)), 58, none, some (nb + 5)⟩,
   ⟨some 6, (.move (.tmp 1)), 125, none, some (nb + 6)⟩,
   ⟨some 7, (.call { callee := .value (.func 69), args := #[(.tmp 5), (.tmp 6)], argTypes := #[58, 125] }), 3, none, some (nb + 7)⟩,
   ⟨some 8, (.binOp .geq 3 (.tmp 7) (.const (.int .i64 0)) 3), 4, none, some (nb + 8)⟩,
   ⟨some 4, (.assign (.tmp 8)), 4, none, some (nb + 4)⟩]) (
 .ret))
@[go_sem] theorem rs54 : Go.Proofs.Try.f54.results.toList = [.tmp 4] := by kernel_rfl
theorem en54 : Enters Q 54 := enters_of Go.Proofs.Try.func54 rfl (by kernel_rfl)
theorem k54 (nb : Nat) : sk nb Go.Proofs.Try.f54.ntmps (Go.Proofs.Try.f54.body.getD .skip) = some (c54 nb) := by kernel_rfl
/-- (smalto/ledger.account).truths -/
noncomputable def c55 (nb : Nat) : SC :=
 .seq (
 .ops [⟨some 2, (.box 85 (.tmp 0)), 0, none, some (nb + 2)⟩,
   ⟨some 3, (.box 141 (.tmp 1)), 0, none, some (nb + 3)⟩]) (
 .seq (
 .ops [⟨some 4, (.alloc 142), 0, none, some (nb + 4)⟩]) (
 .seq (
 .ops [⟨some 5, (.makeFunc (.func 70) #[] #[(.tmp 2), (.tmp 3), (.tmp 4)]), 142, none, some (nb + 5)⟩,
   ⟨none, (.store 142 (.tmp 4) (.tmp 5)), 0, none, none⟩]) (
 .ops [⟨some 6, (.load 142 (.tmp 4)), 142, none, some (nb + 6)⟩,
   ⟨some 7, (.build 82 #[]), 82, none, some (nb + 7)⟩,
   ⟨some 8, (.fieldAddr 85 (.tmp 2) 0), 0, none, some (nb + 8)⟩,
   ⟨some 9, (.load 3 (.tmp 8)), 3, none, some (nb + 9)⟩,
   ⟨some 10, (.call { callee := .value (.tmp 6), args := #[(.tmp 7), (.const (.int .i64 0)), (.tmp 9)], argTypes := #[82, 3, 3] }), 4, none, some (nb + 10)⟩])))
@[go_sem] theorem rs55 : Go.Proofs.Try.f55.results.toList = [] := by kernel_rfl
theorem en55 : Enters Q 55 := enters_of Go.Proofs.Try.func55 rfl (by kernel_rfl)
theorem k55 (nb : Nat) : sk nb Go.Proofs.Try.f55.ntmps (Go.Proofs.Try.f55.body.getD .skip) = some (c55 nb) := by kernel_rfl
/-- smalto/coat.Check -/
noncomputable def c56 (nb : Nat) : SC :=
 .seq (
 .ops [⟨some 1, (.box 27 (.tmp 0)), 0, none, some (nb + 1)⟩,
   ⟨some 2, (.assign (.const (.int .i64 0))), 41, none, some (nb + 2)⟩]) (
 .seq (
 .ops [⟨some 3, (.assign (.func 71)), 143, none, some (nb + 3)⟩]) (
 .seq (
 .block 0 (
  .seq (
  .seq (
  .ops [⟨some 5, (.fieldAddr 27 (.tmp 1) 0), 0, none, some (nb + 5)⟩,
    ⟨some 6, (.load 25 (.tmp 5)), 25, none, some (nb + 6)⟩,
    ⟨some 7, (.call { callee := .builtin .len, args := #[(.tmp 6)], argTypes := #[25] }), 3, none, some (nb + 7)⟩,
    ⟨some 8, (.buildSlice 29 1 #[(0, (.tmp 7))]), 29, none, some (nb + 8)⟩,
    ⟨some 9, (.call { callee := .value (.func 19), args := #[(.const (.int .i64 1)), (.const (.int .i64 4)), (.tmp 8)], argTypes := #[3, 3, 29] }), 4, none, some (nb + 9)⟩,
    ⟨some 10, (.unOp .not 4 (.tmp 9)), 4, none, some (nb + 10)⟩,
    ⟨some 4, (.assign (.tmp 10)), 4, none, some (nb + 4)⟩]) (
  .cond (.tmp 4) (
   .skip) (
   .seq (
   .ops [⟨some 11, (.fieldAddr 27 (.tmp 1) 1), 0, none, some (nb + 11)⟩,
     ⟨some 12, (.load 3 (.tmp 11)), 3, none, some (nb + 12)⟩,
     ⟨some 13, (.fieldAddr 27 (.tmp 1) 2), 0, none, some (nb + 13)⟩,
     ⟨some 14, (.load 3 (.tmp 13)), 3, none, some (nb + 14)⟩,
     ⟨some 15, (.buildSlice 29 2 #[(0, (.tmp 12)), (1, (.tmp 14))]), 29, none, some (nb + 15)⟩,
     ⟨some 16, (.call { callee := .value (.func 19), args := #[(.const (.int .i64 1)), (.const (.int .i64 400)), (.tmp 15)], argTypes := #[3, 3, 29] }), 4, none, some (nb + 16)⟩,
     ⟨some 17, (.unOp .not 4 (.tmp 16)), 4, none, some (nb + 17)⟩,
     ⟨some 4, (.assign (.tmp 17)), 4, none, some (nb + 4)⟩]) (
   .cond (.tmp 4) (
    .skip) (
    .ops [⟨some 18, (.fieldAddr 27 (.tmp 1) 1), 0, none, some (nb + 18)⟩,
      ⟨some 19, (.load 3 (.tmp 18)), 3, none, some (nb + 19)⟩,
      ⟨some 20, (.fieldAddr 27 (.tmp 1) 2), 0, none, some (nb + 20)⟩,
      ⟨some 21, (.load 3 (.tmp 20)), 3, none, some (nb + 21)⟩,
      ⟨some 22, (.binOp .gtr 3 (.tmp 19) (.tmp 21) 3), 4, none, some (nb + 22)⟩,
      ⟨some 4, (.assign (.tmp 22)), 4, none, some (nb + 4)⟩]))))) (
  .cond (.tmp 4) (
   .seq (
   .ops [⟨some 2, (.assign (.const (.int .i64 4))), 41, none, some (nb + 2)⟩]) (
   .ret)) (
   .seq (
   .ops [⟨some 24, (.fieldAddr 27 (.tmp 1) 0), 0, none, some (nb + 24)⟩,
     ⟨some 25, (.load 25 (.tmp 24)), 25, none, some (nb + 25)⟩,
     ⟨some 26, (.move (.tmp 3)), 143, none, some (nb + 26)⟩,
     ⟨some 27, (.call { callee := .value (.func 72), args := #[(.tmp 25), (.tmp 26)], argTypes := #[25, 143] }), 4, none, some (nb + 27)⟩,
     ⟨some 23, (.assign (.tmp 27)), 4, none, some (nb + 23)⟩]) (
   .cond (.tmp 23) (
    .seq (
    .ops [⟨some 2, (.assign (.const (.int .i64 2))), 41, none, some (nb + 2)⟩]) (
    .ret)) (
    .skip)))))) (
 .seq (
 .ops [⟨some 2, (.assign (.const (.int .i64 0))), 41, none, some (nb + 2)⟩]) (
 .ret))))
@[go_sem] theorem rs56 : Go.Proofs.Try.f56.results.toList = [.tmp 2] := by kernel_rfl
theorem en56 : Enters Q 56 := enters_of Go.Proofs.Try.func56 rfl (by kernel_rfl)
theorem k56 (nb : Nat) : sk nb Go.Proofs.Try.f56.ntmps (Go.Proofs.Try.f56.body.getD .skip) = some (c56 nb) := by kernel_rfl
/-- slices.IndexFunc[[]smalto/api.CoatJob,smalto/api.CoatJob] -/
noncomputable def c57 (nb : Nat) : SC :=
 .seq (
 .ops [⟨some 4, (.assign (.const (.int .i64 0))), 3, none, some (nb + 4)⟩]) (
 .seq (
 .seq (
 .ops [⟨some 6, (.move (.tmp 0)), 28, none, some (nb + 6)⟩,
   ⟨some 7, (.call { callee := .builtin .len, args := #[(.tmp 6)], argTypes := #[28] }), 3, none, some (nb + 7)⟩,
   ⟨some 8, (.move (.const (.int .i64 0))), 3, none, some (nb + 8)⟩]) (
 .block 0 (
  .loop (
   .seq (
   .ops [⟨some 9, (.binOp .lss 3 (.tmp 8) (.tmp 7) 3), 0, none, some (nb + 9)⟩]) (
   .seq (
   .cond (.tmp 9) (
    .skip) (
    .exit 0)) (
   .seq (
   .block 1 (
    .seq (
    .ops [⟨some 10, (.move (.tmp 8)), 3, none, some (nb + 10)⟩,
      ⟨some 5, (.assign (.tmp 10)), 3, none, some (nb + 5)⟩]) (
    .seq (
    .ops [⟨some 11, (.move (.tmp 1)), 109, none, some (nb + 11)⟩,
      ⟨some 12, (.move (.tmp 0)), 28, none, some (nb + 12)⟩,
      ⟨some 13, (.move (.tmp 5)), 3, none, some (nb + 13)⟩,
      ⟨some 14, (.indexAddr 28 (.tmp 12) (.tmp 13)), 0, none, some (nb + 14)⟩,
      ⟨some 15, (.load 54 (.tmp 14)), 54, none, some (nb + 15)⟩,
      ⟨some 16, (.call { callee := .value (.tmp 11), args := #[(.tmp 15)], argTypes := #[54] }), 4, none, some (nb + 16)⟩]) (
    .cond (.tmp 16) (
     .seq (
     .ops [⟨some 17, (.move (.tmp 5)), 3, none, some (nb + 17)⟩,
       ⟨some 4, (.assign (.tmp 17)), 3, none, some (nb + 4)⟩]) (
     .ret)) (
     .skip))))) (
   .ops [⟨some 18, (.binOp .add 3 (.tmp 8) (.const (.int .i64 1)) 3), 3, none, some (nb + 18)⟩,
     ⟨some 8, (.move (.tmp 18)), 3, none, some (nb + 8)⟩]))))))) (
 .seq (
 .ops [⟨some 4, (.assign (.const (.int .i64 (-1)))), 3, none, some (nb + 4)⟩]) (
 .ret)))
@[go_sem] theorem rs57 : Go.Proofs.Try.f57.results.toList = [.tmp 4] := by kernel_rfl
theorem en57 : Enters Q 57 := enters_of Go.Proofs.Try.func57 rfl (by kernel_rfl)
theorem k57 (nb : Nat) : sk nb Go.Proofs.Try.f57.ntmps (Go.Proofs.Try.f57.body.getD .skip) = some (c57 nb) := by kernel_rfl
/-- slices.IndexFunc[[]int,int] -/
noncomputable def c58 (nb : Nat) : SC :=
 .seq (
 .ops [⟨some 4, (.assign (.const (.int .i64 0))), 3, none, some (nb + 4)⟩]) (
 .seq (
 .seq (
 .ops [⟨some 6, (.move (.tmp 0)), 29, none, some (nb + 6)⟩,
   ⟨some 7, (.call { callee := .builtin .len, args := #[(.tmp 6)], argTypes := #[29] }), 3, none, some (nb + 7)⟩,
   ⟨some 8, (.move (.const (.int .i64 0))), 3, none, some (nb + 8)⟩]) (
 .block 0 (
  .loop (
   .seq (
   .ops [⟨some 9, (.binOp .lss 3 (.tmp 8) (.tmp 7) 3), 0, none, some (nb + 9)⟩]) (
   .seq (
   .cond (.tmp 9) (
    .skip) (
    .exit 0)) (
   .seq (
   .block 1 (
    .seq (
    .ops [⟨some 10, (.move (.tmp 8)), 3, none, some (nb + 10)⟩,
      ⟨some 5, (.assign (.tmp 10)), 3, none, some (nb + 5)⟩]) (
    .seq (
    .ops [⟨some 11, (.move (.tmp 1)), 115, none, some (nb + 11)⟩,
      ⟨some 12, (.move (.tmp 0)), 29, none, some (nb + 12)⟩,
      ⟨some 13, (.move (.tmp 5)), 3, none, some (nb + 13)⟩,
      ⟨some 14, (.indexAddr 29 (.tmp 12) (.tmp 13)), 0, none, some (nb + 14)⟩,
      ⟨some 15, (.load 3 (.tmp 14)), 3, none, some (nb + 15)⟩,
      ⟨some 16, (.call { callee := .value (.tmp 11), args := #[(.tmp 15)], argTypes := #[3] }), 4, none, some (nb + 16)⟩]) (
    .cond (.tmp 16) (
     .seq (
     .ops [⟨some 17, (.move (.tmp 5)), 3, none, some (nb + 17)⟩,
       ⟨some 4, (.assign (.tmp 17)), 3, none, some (nb + 4)⟩]) (
     .ret)) (
     .skip))))) (
   .ops [⟨some 18, (.binOp .add 3 (.tmp 8) (.const (.int .i64 1)) 3), 3, none, some (nb + 18)⟩,
     ⟨some 8, (.move (.tmp 18)), 3, none, some (nb + 8)⟩]))))))) (
 .seq (
 .ops [⟨some 4, (.assign (.const (.int .i64 (-1)))), 3, none, some (nb + 4)⟩]) (
 .ret)))
@[go_sem] theorem rs58 : Go.Proofs.Try.f58.results.toList = [.tmp 4] := by kernel_rfl
theorem en58 : Enters Q 58 := enters_of Go.Proofs.Try.func58 rfl (by kernel_rfl)
theorem k58 (nb : Nat) : sk nb Go.Proofs.Try.f58.ntmps (Go.Proofs.Try.f58.body.getD .skip) = some (c58 nb) := by kernel_rfl
/-- smalto/ledger.Check$1 -/
noncomputable def c59 (nb : Nat) : SC :=
 .seq (
 .ops [⟨some 2, (.box 92 (.tmp 0)), 0, none, some (nb + 2)⟩,
   ⟨some 3, (.assign (.const (.bool false))), 4, none, some (nb + 3)⟩]) (
 .seq (
 .ops [⟨some 4, (.fieldAddr 92 (.tmp 2) 0), 0, none, some (nb + 4)⟩,
   ⟨some 5, (.load 3 (.tmp 4)), 3, none, some (nb + 5)⟩,
   ⟨some 6, (.buildSlice 29 1 #[(0, (.tmp 5))]), 29, none, some (nb + 6)⟩,
   ⟨some 7, (.call { callee := .value (.func 27), args := #[(.const (.int .i64 0)), (.const (.int .i64 365)), (.tmp 6)], argTypes := #[3, 3, 29] }), 4, none, some (nb + 7)⟩,
   ⟨some 8, (.unOp .not 4 (.tmp 7)), 4, none, some (nb + 8)⟩,
   ⟨some 9, (.move (.tmp 8)), 4, none, some (nb + 9)⟩,
   ⟨some 10, (.load 3 (.tmp 1)), 3, some (9, false), some (nb + 10)⟩,
   ⟨some 11, (.binOp .sub 3 (.tmp 10) (.const (.int .i64 1)) 3), 3, some (9, false), some (nb + 11)⟩,
   ⟨some 12, (.fieldAddr 92 (.tmp 2) 1), 0, some (9, false), some (nb + 12)⟩,
   ⟨some 13, (.load 3 (.tmp 12)), 3, some (9, false), some (nb + 13)⟩,
   ⟨some 14, (.buildSlice 29 1 #[(0, (.tmp 13))]), 29, some (9, false), some (nb + 14)⟩,
   ⟨some 15, (.call { callee := .value (.func 27), args := #[(.const (.int .i64 0)), (.tmp 11), (.tmp 14)], argTypes := #[3, 3, 29] }), 4, some (9, false), some (nb + 15)⟩,
   ⟨some 16, (.unOp .not 4 (.tmp 15)), 4, some (9, false), some (nb + 16)⟩,
   ⟨some 17, (.pick (.tmp 9) (.const (.bool true)) (.tmp 16)), 4, none, some (nb + 17)⟩,
   ⟨some 18, (.move (.tmp 17)), 4, none, some (nb + 18)⟩,
   ⟨some 19, (.fieldAddr 92 (.tmp 2) 2), 0, some (18, false), some (nb + 19)⟩,
   ⟨some 20, (.load 3 (.tmp 19)), 3, some (18, false), some (nb + 20)⟩,
   ⟨some 21, (.buildSlice 29 1 #[(0, (.tmp 20))]), 29, some (18, false), some (nb + 21)⟩,
   ⟨some 22, (.call { callee := .value (.func 27), args := #[(.const (.int .i64 (-1000))), (.const (.int .i64 1000)), (.tmp 21)], argTypes := #[3, 3, 29] }), 4, some (18, false), some (nb + 22)⟩,
   ⟨some 23, (.unOp .not 4 (.tmp 22)), 4, some (18, false), some (nb + 23)⟩,
   ⟨some 24, (.pick (.tmp 18) (.const (.bool true)) (.tmp 23)), 4, none, some (nb + 24)⟩,
   ⟨some 25, (.move (.tmp 24)), 4, none, some (nb + 25)⟩,
   ⟨some 26, (.fieldAddr 92 (.tmp 2) 2), 0, some (25, false), some (nb + 26)⟩,
   ⟨some 27, (.load 3 (.tmp 26)), 3, some (25, false), some (nb + 27)⟩,
   ⟨some 28, (.binOp .eql 3 (.tmp 27) (.const (.int .i64 0)) 3), 4, some (25, false), some (nb + 28)⟩,
   ⟨some 29, (.pick (.tmp 25) (.const (.bool true)) (.tmp 28)), 4, none, some (nb + 29)⟩,
   ⟨some 3, (.assign (.tmp 29)), 4, none, some (nb + 3)⟩]) (
 .ret))
@[go_sem] theorem rs59 : Go.Proofs.Try.f59.results.toList = [.tmp 3] := by kernel_rfl
theorem en59 : Enters Q 59 := enters_of Go.Proofs.Try.func59 rfl (by kernel_rfl)
theorem k59 (nb : Nat) : sk nb Go.Proofs.Try.f59.ntmps (Go.Proofs.Try.f59.body.getD .skip) = some (c59 nb) := by kernel_rfl
/-- smalto/ledger.Check$2 -/
noncomputable def c60 (nb : Nat) : SC :=
 .seq (
 .ops [⟨some 1, (.box 38 (.tmp 0)), 0, none, some (nb + 1)⟩,
   ⟨some 2, (.assign (.const (.bool false))), 4, none, some (nb + 2)⟩]) (
 .seq (
 .ops [⟨some 3, (.load 38 (.tmp 1)), 38, none, some (nb + 3)⟩,
   ⟨some 4, (.call { callee := .value (.func 45), args := #[(.const (.int .i64 0)), (.const (.int .i64 50)), (.tmp 3)], argTypes := #[3, 3, 38] }), 4, none, some (nb + 4)⟩,
   ⟨some 5, (.unOp .not 4 (.tmp 4)), 4, none, some (nb + 5)⟩,
   ⟨some 6, (.move (.tmp 5)), 4, none, some (nb + 6)⟩,
   ⟨some 7, (.fieldAddr 38 (.tmp 1) 1), 0, some (6, false), some (nb + 7)⟩,
   ⟨some 8, (.load 3 (.tmp 7)), 3, some (6, false), some (nb + 8)⟩,
   ⟨some 9, (.fieldAddr 38 (.tmp 1) 0), 0, some (6, false), some (nb + 9)⟩,
   ⟨some 10, (.load 3 (.tmp 9)), 3, some (6, false), some (nb + 10)⟩,
   ⟨some 11, (.binOp .sub 3 (.tmp 8) (.tmp 10) 3), 3, some (6, false), some (nb + 11)⟩,
   ⟨some 12, (.binOp .geq 3 (.tmp 11) (.const (.int .i64 8)) 3), 4, some (6, false), some (nb + 12)⟩,
   ⟨some 13, (.pick (.tmp 6) (.const (.bool true)) (.tmp 12)), 4, none, some (nb + 13)⟩,
   ⟨some 2, (.assign (.tmp 13)), 4, none, some (nb + 2)⟩]) (
 .ret))
@[go_sem] theorem rs60 : Go.Proofs.Try.f60.results.toList = [.tmp 2] := by kernel_rfl
theorem en60 : Enters Q 60 := enters_of Go.Proofs.Try.func60 rfl (by kernel_rfl)
theorem k60 (nb : Nat) : sk nb Go.Proofs.Try.f60.ntmps (Go.Proofs.Try.f60.body.getD .skip) = some (c60 nb) := by kernel_rfl
/-- smalto/ledger.Check$3 -/
noncomputable def c61 (nb : Nat) : SC :=
 .seq (
 .ops [⟨some 3, (.box 67 (.tmp 0)), 0, none, some (nb + 3)⟩,
   ⟨some 4, (.assign (.const (.bool false))), 4, none, some (nb + 4)⟩]) (
 .seq (
 .ops [⟨some 5, (.fieldAddr 67 (.tmp 3) 0), 0, none, some (nb + 5)⟩,
   ⟨some 6, (.load 40 (.tmp 5)), 40, none, some (nb + 6)⟩,
   ⟨some 7, (.call { callee := .builtin .len, args := #[(.tmp 6)], argTypes := #[40] }), 3, none, some (nb + 7)⟩,
   ⟨some 8, (.load 3 (.tmp 1)), 3, none, some (nb + 8)⟩,
   ⟨some 9, (.binOp .neq 3 (.tmp 7) (.tmp 8) 3), 4, none, some (nb + 9)⟩,
   ⟨some 10, (.move (.tmp 9)), 4, none, some (nb + 10)⟩,
   ⟨some 11, (.fieldAddr 67 (.tmp 3) 0), 0, some (10, false), some (nb + 11)⟩,
   ⟨some 12, (.load 40 (.tmp 11)), 40, some (10, false), some (nb + 12)⟩,
   ⟨some 13, (.load 120 (.tmp 2)), 120, some (10, false), some (nb + 13)⟩,
   ⟨some 14, (.call { callee := .value (.func 43), args := #[(.tmp 12), (.tmp 13)], argTypes := #[40, 120] }), 4, some (10, false), some (nb + 14)⟩,
   ⟨some 15, (.pick (.tmp 10) (.const (.bool true)) (.tmp 14)), 4, none, some (nb + 15)⟩,
   ⟨some 4, (.assign (.tmp 15)), 4, none, some (nb + 4)⟩]) (
 .ret))
@[go_sem] theorem rs61 : Go.Proofs.Try.f61.results.toList = [.tmp 4] := by kernel_rfl
theorem en61 : Enters Q 61 := enters_of Go.Proofs.Try.func61 rfl (by kernel_rfl)
theorem k61 (nb : Nat) : sk nb Go.Proofs.Try.f61.ntmps (Go.Proofs.Try.f61.body.getD .skip) = some (c61 nb) := by kernel_rfl
/-- smalto/ledger.Check$4 -/
noncomputable def c62 (nb : Nat) : SC :=
 .seq (
 .ops [⟨some 2, (.box 69 (.tmp 0)), 0, none, some (nb + 2)⟩,
   ⟨some 3, (.assign (.const (.bool false))), 4, none, some (nb + 3)⟩]) (
 .seq (
 .ops [⟨some 4, (.fieldAddr 69 (.tmp 2) 0), 0, none, some (nb + 4)⟩,
   ⟨some 5, (.load 3 (.tmp 4)), 3, none, some (nb + 5)⟩,
   ⟨some 6, (.buildSlice 29 1 #[(0, (.tmp 5))]), 29, none, some (nb + 6)⟩,
   ⟨some 7, (.call { callee := .value (.func 27), args := #[(.const (.int .i64 0)), (.const (.int .i64 365)), (.tmp 6)], argTypes := #[3, 3, 29] }), 4, none, some (nb + 7)⟩,
   ⟨some 8, (.unOp .not 4 (.tmp 7)), 4, none, some (nb + 8)⟩,
   ⟨some 9, (.move (.tmp 8)), 4, none, some (nb + 9)⟩,
   ⟨some 10, (.fieldAddr 34 (.tmp 1) 2), 0, some (9, false), some (nb + 10)⟩,
   ⟨some 11, (.load 31 (.tmp 10)), 31, some (9, false), some (nb + 11)⟩,
   ⟨some 12, (.call { callee := .builtin .len, args := #[(.tmp 11)], argTypes := #[31] }), 3, some (9, false), some (nb + 12)⟩,
   ⟨some 13, (.binOp .sub 3 (.tmp 12) (.const (.int .i64 1)) 3), 3, some (9, false), some (nb + 13)⟩,
   ⟨some 14, (.fieldAddr 69 (.tmp 2) 1), 0, some (9, false), some (nb + 14)⟩,
   ⟨some 15, (.load 3 (.tmp 14)), 3, some (9, false), some (nb + 15)⟩,
   ⟨some 16, (.buildSlice 29 1 #[(0, (.tmp 15))]), 29, some (9, false), some (nb + 16)⟩,
   ⟨some 17, (.call { callee := .value (.func 27), args := #[(.const (.int .i64 0)), (.tmp 13), (.tmp 16)], argTypes := #[3, 3, 29] }), 4, some (9, false), some (nb + 17)⟩,
   ⟨some 18, (.unOp .not 4 (.tmp 17)), 4, some (9, false), some (nb + 18)⟩,
   ⟨some 19, (.pick (.tmp 9) (.const (.bool true)) (.tmp 18)), 4, none, some (nb + 19)⟩,
   ⟨some 20, (.move (.tmp 19)), 4, none, some (nb + 20)⟩,
   ⟨some 21, (.fieldAddr 69 (.tmp 2) 2), 0, some (20, false), some (nb + 21)⟩,
   ⟨some 22, (.load 3 (.tmp 21)), 3, some (20, false), some (nb + 22)⟩,
   ⟨some 23, (.buildSlice 29 1 #[(0, (.tmp 22))]), 29, some (20, false), some (nb + 23)⟩,
   ⟨some 24, (.call { callee := .value (.func 27), args := #[(.const (.int .i64 1)), (.const (.int .i64 100)), (.tmp 23)], argTypes := #[3, 3, 29] }), 4, some (20, false), some (nb + 24)⟩,
   ⟨some 25, (.unOp .not 4 (.tmp 24)), 4, some (20, false), some (nb + 25)⟩,
   ⟨some 26, (.pick (.tmp 20) (.const (.bool true)) (.tmp 25)), 4, none, some (nb + 26)⟩,
   ⟨some 3, (.assign (.tmp 26)), 4, none, some (nb + 3)⟩]) (
 .ret))
@[go_sem] theorem rs62 : Go.Proofs.Try.f62.results.toList = [.tmp 3] := by kernel_rfl
theorem en62 : Enters Q 62 := enters_of Go.Proofs.Try.func62 rfl (by kernel_rfl)
theorem k62 (nb : Nat) : sk nb Go.Proofs.Try.f62.ntmps (Go.Proofs.Try.f62.body.getD .skip) = some (c62 nb) := by kernel_rfl
/-- slices.ContainsFunc[[]smalto/api.LedgerEntry,smalto/api.LedgerEntry] -/
noncomputable def c63 (nb : Nat) : SC :=
 .seq (
 .ops [⟨some 4, (.assign (.const (.bool false))), 4, none, some (nb + 4)⟩]) (
 .seq (
 .ops [⟨some 5, (.move (.tmp 0)), 30, none, some (nb + 5)⟩,
   ⟨some 6, (.move (.tmp 1)), 132, none, some (nb + 6)⟩,
   ⟨some 7, (.call { callee := .value (.func 73), args := #[(.tmp 5), (.tmp 6)], argTypes := #[30, 132] }), 3, none, some (nb + 7)⟩,
   ⟨some 8, (.binOp .geq 3 (.tmp 7) (.const (.int .i64 0)) 3), 4, none, some (nb + 8)⟩,
   ⟨some 4, (.assign (.tmp 8)), 4, none, some (nb + 4)⟩]) (
 .ret))
@[go_sem] theorem rs63 : Go.Proofs.Try.f63.results.toList = [.tmp 4] := by kernel_rfl
theorem en63 : Enters Q 63 := enters_of Go.Proofs.Try.func63 rfl (by kernel_rfl)
theorem k63 (nb : Nat) : sk nb Go.Proofs.Try.f63.ntmps (Go.Proofs.Try.f63.body.getD .skip) = some (c63 nb) := by kernel_rfl
/-- slices.ContainsFunc[[]smalto/api.LedgerRecipe,smalto/api.LedgerRecipe] -/
noncomputable def c64 (nb : Nat) : SC :=
 .seq (
 .ops [⟨some 4, (.assign (.const (.bool false))), 4, none, some (nb + 4)⟩]) (
 .seq (
 .ops [⟨some 5, (.move (.tmp 0)), 31, none, some (nb + 5)⟩,
   ⟨some 6, (.move (.tmp 1)), 133, none, some (nb + 6)⟩,
   ⟨some 7, (.call { callee := .value (.func 74), args := #[(.tmp 5), (.tmp 6)], argTypes := #[31, 133] }), 3, none, some (nb + 7)⟩,
   ⟨some 8, (.binOp .geq 3 (.tmp 7) (.const (.int .i64 0)) 3), 4, none, some (nb + 8)⟩,
   ⟨some 4, (.assign (.tmp 8)), 4, none, some (nb + 4)⟩]) (
 .ret))
@[go_sem] theorem rs64 : Go.Proofs.Try.f64.results.toList = [.tmp 4] := by kernel_rfl
theorem en64 : Enters Q 64 := enters_of Go.Proofs.Try.func64 rfl (by kernel_rfl)
theorem k64 (nb : Nat) : sk nb Go.Proofs.Try.f64.ntmps (Go.Proofs.Try.f64.body.getD .skip) = some (c64 nb) := by kernel_rfl
/-- slices.ContainsFunc[[]smalto/api.LedgerMade,smalto/api.LedgerMade] -/
noncomputable def c65 (nb : Nat) : SC :=
 .seq (
 .ops [⟨some 4, (.assign (.const (.bool false))), 4, none, some (nb + 4)⟩]) (
 .seq (
 .ops [⟨some 5, (.move (.tmp 0)), 32, none, some (nb + 5)⟩,
   ⟨some 6, (.move (.tmp 1)), 134, none, some (nb + 6)⟩,
   ⟨some 7, (.call { callee := .value (.func 75), args := #[(.tmp 5), (.tmp 6)], argTypes := #[32, 134] }), 3, none, some (nb + 7)⟩,
   ⟨some 8, (.binOp .geq 3 (.tmp 7) (.const (.int .i64 0)) 3), 4, none, some (nb + 8)⟩,
   ⟨some 4, (.assign (.tmp 8)), 4, none, some (nb + 4)⟩]) (
 .ret))
@[go_sem] theorem rs65 : Go.Proofs.Try.f65.results.toList = [.tmp 4] := by kernel_rfl
theorem en65 : Enters Q 65 := enters_of Go.Proofs.Try.func65 rfl (by kernel_rfl)
theorem k65 (nb : Nat) : sk nb Go.Proofs.Try.f65.ntmps (Go.Proofs.Try.f65.body.getD .skip) = some (c65 nb) := by kernel_rfl
/-- slices.IndexFunc[[]smalto/api.Span,smalto/api.Span] -/
noncomputable def c66 (nb : Nat) : SC :=
 .seq (
 .ops [⟨some 4, (.assign (.const (.int .i64 0))), 3, none, some (nb + 4)⟩]) (
 .seq (
 .seq (
 .ops [⟨some 6, (.move (.tmp 0)), 40, none, some (nb + 6)⟩,
   ⟨some 7, (.call { callee := .builtin .len, args := #[(.tmp 6)], argTypes := #[40] }), 3, none, some (nb + 7)⟩,
   ⟨some 8, (.move (.const (.int .i64 0))), 3, none, some (nb + 8)⟩]) (
 .block 0 (
  .loop (
   .seq (
   .ops [⟨some 9, (.binOp .lss 3 (.tmp 8) (.tmp 7) 3), 0, none, some (nb + 9)⟩]) (
   .seq (
   .cond (.tmp 9) (
    .skip) (
    .exit 0)) (
   .seq (
   .block 1 (
    .seq (
    .ops [⟨some 10, (.move (.tmp 8)), 3, none, some (nb + 10)⟩,
      ⟨some 5, (.assign (.tmp 10)), 3, none, some (nb + 5)⟩]) (
    .seq (
    .ops [⟨some 11, (.move (.tmp 1)), 120, none, some (nb + 11)⟩,
      ⟨some 12, (.move (.tmp 0)), 40, none, some (nb + 12)⟩,
      ⟨some 13, (.move (.tmp 5)), 3, none, some (nb + 13)⟩,
      ⟨some 14, (.indexAddr 40 (.tmp 12) (.tmp 13)), 0, none, some (nb + 14)⟩,
      ⟨some 15, (.load 38 (.tmp 14)), 38, none, some (nb + 15)⟩,
      ⟨some 16, (.call { callee := .value (.tmp 11), args := #[(.tmp 15)], argTypes := #[38] }), 4, none, some (nb + 16)⟩]) (
    .cond (.tmp 16) (
     .seq (
     .ops [⟨some 17, (.move (.tmp 5)), 3, none, some (nb + 17)⟩,
       ⟨some 4, (.assign (.tmp 17)), 3, none, some (nb + 4)⟩]) (
     .ret)) (
     .skip))))) (
   .ops [⟨some 18, (.binOp .add 3 (.tmp 8) (.const (.int .i64 1)) 3), 3, none, some (nb + 18)⟩,
     ⟨some 8, (.move (.tmp 18)), 3, none, some (nb + 8)⟩]))))))) (
 .seq (
 .ops [⟨some 4, (.assign (.const (.int .i64 (-1)))), 3, none, some (nb + 4)⟩]) (
 .ret)))
@[go_sem] theorem rs66 : Go.Proofs.Try.f66.results.toList = [.tmp 4] := by kernel_rfl
theorem en66 : Enters Q 66 := enters_of Go.Proofs.Try.func66 rfl (by kernel_rfl)
theorem k66 (nb : Nat) : sk nb Go.Proofs.Try.f66.ntmps (Go.Proofs.Try.f66.body.getD .skip) = some (c66 nb) := by kernel_rfl
/-- slices.stableCmpFunc[int] -/
noncomputable def c67 (nb : Nat) : SC :=
 .seq (
 .ops [⟨some 6, (.assign (.const (.int .i64 20))), 3, none, some (nb + 6)⟩]) (
 .seq (
 .ops [⟨some 10, (.move (.tmp 6)), 3, none, some (nb + 10)⟩,
   ⟨some 7, (.assign (.const (.int .i64 0))), 3, none, some (nb + 7)⟩,
   ⟨some 8, (.assign (.tmp 10)), 3, none, some (nb + 8)⟩]) (
 .seq (
 .block 0 (
  .loop (
   .seq (
   .seq (
   .ops [⟨some 11, (.move (.tmp 8)), 3, none, some (nb + 11)⟩,
     ⟨some 12, (.move (.tmp 1)), 3, none, some (nb + 12)⟩,
     ⟨some 13, (.binOp .leq 3 (.tmp 11) (.tmp 12) 3), 4, none, some (nb + 13)⟩]) (
   .cond (.tmp 13) (
    .skip) (
    .exit 0))) (
   .block 1 (
    .seq (
    .ops [⟨some 14, (.move (.tmp 0)), 29, none, some (nb + 14)⟩,
      ⟨some 15, (.move (.tmp 7)), 3, none, some (nb + 15)⟩,
      ⟨some 16, (.move (.tmp 8)), 3, none, some (nb + 16)⟩,
      ⟨some 17, (.move (.tmp 2)), 124, none, some (nb + 17)⟩,
      ⟨some 18, (.call { callee := .value (.func 76), args := #[(.tmp 14), (.tmp 15), (.tmp 16), (.tmp 17)], argTypes := #[29, 3, 3, 124] }), 0, none, some (nb + 18)⟩]) (
    .seq (
    .ops [⟨some 19, (.move (.tmp 8)), 3, none, some (nb + 19)⟩,
      ⟨some 7, (.assign (.tmp 19)), 3, none, some (nb + 7)⟩]) (
    .ops [⟨some 20, (.move (.tmp 8)), 3, none, some (nb + 20)⟩,
      ⟨some 21, (.move (.tmp 6)), 3, none, some (nb + 21)⟩,
      ⟨some 22, (.binOp .add 3 (.tmp 20) (.tmp 21) 3), 3, none, some (nb + 22)⟩,
      ⟨some 8, (.assign (.tmp 22)), 3, none, some (nb + 8)⟩]))))))) (
 .seq (
 .ops [⟨some 23, (.move (.tmp 0)), 29, none, some (nb + 23)⟩,
   ⟨some 24, (.move (.tmp 7)), 3, none, some (nb + 24)⟩,
   ⟨some 25, (.move (.tmp 1)), 3, none, some (nb + 25)⟩,
   ⟨some 26, (.move (.tmp 2)), 124, none, some (nb + 26)⟩,
   ⟨some 27, (.call { callee := .value (.func 76), args := #[(.tmp 23), (.tmp 24), (.tmp 25), (.tmp 26)], argTypes := #[29, 3, 3, 124] }), 0, none, some (nb + 27)⟩]) (
 .block 2 (
  .loop (
   .seq (
   .seq (
   .ops [⟨some 28, (.move (.tmp 6)), 3, none, some (nb + 28)⟩,
     ⟨some 29, (.move (.tmp 1)), 3, none, some (nb + 29)⟩,
     ⟨some 30, (.binOp .lss 3 (.tmp 28) (.tmp 29) 3), 4, none, some (nb + 30)⟩]) (
   .cond (.tmp 30) (
    .skip) (
    .exit 2))) (
   .block 3 (
    .seq (
    .ops [⟨some 31, (.move (.tmp 6)), 3, none, some (nb + 31)⟩,
      ⟨some 32, (.binOp .mul 3 (.const (.int .i64 2)) (.tmp 31) 3), 3, none, some (nb + 32)⟩,
      ⟨some 7, (.assign (.const (.int .i64 0))), 3, none, some (nb + 7)⟩,
      ⟨some 8, (.assign (.tmp 32)), 3, none, some (nb + 8)⟩]) (
    .seq (
    .block 4 (
     .loop (
      .seq (
      .seq (
      .ops [⟨some 33, (.move (.tmp 8)), 3, none, some (nb + 33)⟩,
        ⟨some 34, (.move (.tmp 1)), 3, none, some (nb + 34)⟩,
        ⟨some 35, (.binOp .leq 3 (.tmp 33) (.tmp 34) 3), 4, none, some (nb + 35)⟩]) (
      .cond (.tmp 35) (
       .skip) (
       .exit 4))) (
      .block 5 (
       .seq (
       .ops [⟨some 36, (.move (.tmp 0)), 29, none, some (nb + 36)⟩,
         ⟨some 37, (.move (.tmp 7)), 3, none, some (nb + 37)⟩,
         ⟨some 38, (.move (.tmp 7)), 3, none, some (nb + 38)⟩,
         ⟨some 39, (.move (.tmp 6)), 3, none, some (nb + 39)⟩,
         ⟨some 40, (.binOp .add 3 (.tmp 38) (.tmp 39) 3), 3, none, some (nb + 40)⟩,
         ⟨some 41, (.move (.tmp 8)), 3, none, some (nb + 41)⟩,
         ⟨some 42, (.move (.tmp 2)), 124, none, some (nb + 42)⟩,
         ⟨some 43, (.call { callee := .value (.func 77), args := #[(.tmp 36), (.tmp 37), (.tmp 40), (.tmp 41), (.tmp 42)], argTypes := #[29, 3, 3, 3, 124] }), 0, none, some (nb + 43)⟩]) (
       .seq (
       .ops [⟨some 44, (.move (.tmp 8)), 3, none, some (nb + 44)⟩,
         ⟨some 7, (.assign (.tmp 44)), 3, none, some (nb + 7)⟩]) (
       .ops [⟨some 45, (.move (.tmp 8)), 3, none, some (nb + 45)⟩,
         ⟨some 46, (.move (.tmp 6)), 3, none, some (nb + 46)⟩,
         ⟨some 47, (.binOp .mul 3 (.const (.int .i64 2)) (.tmp 46) 3), 3, none, some (nb + 47)⟩,
         ⟨some 48, (.binOp .add 3 (.tmp 45) (.tmp 47) 3), 3, none, some (nb + 48)⟩,
         ⟨some 8, (.assign (.tmp 48)), 3, none, some (nb + 8)⟩]))))))) (
    .seq (
    .seq (
    .ops [⟨some 49, (.move (.tmp 7)), 3, none, some (nb + 49)⟩,
      ⟨some 50, (.move (.tmp 6)), 3, none, some (nb + 50)⟩,
      ⟨some 51, (.binOp .add 3 (.tmp 49) (.tmp 50) 3), 3, none, some (nb + 51)⟩,
      ⟨some 9, (.assign (.tmp 51)), 3, none, some (nb + 9)⟩]) (
    .seq (
    .ops [⟨some 52, (.move (.tmp 9)), 3, none, some (nb + 52)⟩,
      ⟨some 53, (.move (.tmp 1)), 3, none, some (nb + 53)⟩,
      ⟨some 54, (.binOp .lss 3 (.tmp 52) (.tmp 53) 3), 4, none, some (nb + 54)⟩]) (
    .cond (.tmp 54) (
     .ops [⟨some 55, (.move (.tmp 0)), 29, none, some (nb + 55)⟩,
       ⟨some 56, (.move (.tmp 7)), 3, none, some (nb + 56)⟩,
       ⟨some 57, (.move (.tmp 9)), 3, none, some (nb + 57)⟩,
       ⟨some 58, (.move (.tmp 1)), 3, none, some (nb + 58)⟩,
       ⟨some 59, (.move (.tmp 2)), 124, none, some (nb + 59)⟩,
       ⟨some 60, (.call { callee := .value (.func 77), args := #[(.tmp 55), (.tmp 56), (.tmp 57), (.tmp 58), (.tmp 59)], argTypes := #[29, 3, 3, 3, 124] }), 0, none, some (nb + 60)⟩]) (
     .skip)))) (
    .ops [⟨some 61, (.move (.tmp 6)), 3, none, some (nb + 61)⟩,
      ⟨some 62, (.binOp .mul 3 (.tmp 61) (.const (.int .i64 2)) 3), 3, none, some (nb + 62)⟩,
      ⟨some 6, (.assign (.tmp 62)), 3, none, some (nb + 6)⟩])))))))))))
@[go_sem] theorem rs67 : Go.Proofs.Try.f67.results.toList = [] := by kernel_rfl
theorem en67 : Enters Q 67 := enters_of Go.Proofs.Try.func67 rfl (by kernel_rfl)
theorem k67 (nb : Nat) : sk nb Go.Proofs.Try.f67.ntmps (Go.Proofs.Try.f67.body.getD .skip) = some (c67 nb) := by kernel_rfl
/-- cmp.isNaN[int] -/
noncomputable def c68 (nb : Nat) : SC :=
 .seq (
 .ops [⟨some 2, (.assign (.const (.bool false))), 4, none, some (nb + 2)⟩]) (
 .seq (
 .ops [⟨some 3, (.move (.tmp 0)), 3, none, some (nb + 3)⟩,
   ⟨some 4, (.move (.tmp 0)), 3, none, some (nb + 4)⟩,
   ⟨some 5, (.binOp .neq 3 (.tmp 3) (.tmp 4) 3), 4, none, some (nb + 5)⟩,
   ⟨some 2, (.assign (.tmp 5)), 4, none, some (nb + 2)⟩]) (
 .ret))
@[go_sem] theorem rs68 : Go.Proofs.Try.f68.results.toList = [.tmp 2] := by kernel_rfl
theorem en68 : Enters Q 68 := enters_of Go.Proofs.Try.func68 rfl (by kernel_rfl)
theorem k68 (nb : Nat) : sk nb Go.Proofs.Try.f68.ntmps (Go.Proofs.Try.f68.body.getD .skip) = some (c68 nb) := by kernel_rfl
/-- slices.IndexFunc[[]smalto/api.CoatWeighed,smalto/api.CoatWeighed] -/
noncomputable def c69 (nb : Nat) : SC :=
 .seq (
 .ops [⟨some 4, (.assign (.const (.int .i64 0))), 3, none, some (nb + 4)⟩]) (
 .seq (
 .seq (
 .ops [⟨some 6, (.move (.tmp 0)), 58, none, some (nb + 6)⟩,
   ⟨some 7, (.call { callee := .builtin .len, args := #[(.tmp 6)], argTypes := #[58] }), 3, none, some (nb + 7)⟩,
   ⟨some 8, (.move (.const (.int .i64 0))), 3, none, some (nb + 8)⟩]) (
 .block 0 (
  .loop (
   .seq (
   .ops [⟨some 9, (.binOp .lss 3 (.tmp 8) (.tmp 7) 3), 0, none, some (nb + 9)⟩]) (
   .seq (
   .cond (.tmp 9) (
    .skip) (
    .exit 0)) (
   .seq (
   .block 1 (
    .seq (
    .ops [⟨some 10, (.move (.tmp 8)), 3, none, some (nb + 10)⟩,
      ⟨some 5, (.assign (.tmp 10)), 3, none, some (nb + 5)⟩]) (
    .seq (
    .ops [⟨some 11, (.move (.tmp 1)), 125, none, some (nb + 11)⟩,
      ⟨some 12, (.move (.tmp 0)), 58, none, some (nb + 12)⟩,
      ⟨some 13, (.move (.tmp 5)), 3, none, some (nb + 13)⟩,
      ⟨some 14, (.indexAddr 58 (.tmp 12) (.tmp 13)), 0, none, some (nb + 14)⟩,
      ⟨some 15, (.load 57 (.tmp 14)), 57, none, some (nb + 15)⟩,
      ⟨some 16, (.call { callee := .value (.tmp 11), args := #[(.tmp 15)], argTypes := #[57] }), 4, none, some (nb + 16)⟩]) (
    .cond (.tmp 16) (
     .seq (
     .ops [⟨some 17, (.move (.tmp 5)), 3, none, some (nb + 17)⟩,
       ⟨some 4, (.assign (.tmp 17)), 3, none, some (nb + 4)⟩]) (
     .ret)) (
     .skip))))) (
   .ops [⟨some 18, (.binOp .add 3 (.tmp 8) (.const (.int .i64 1)) 3), 3, none, some (nb + 18)⟩,
     ⟨some 8, (.move (.tmp 18)), 3, none, some (nb + 8)⟩]))))))) (
 .seq (
 .ops [⟨some 4, (.assign (.const (.int .i64 (-1)))), 3, none, some (nb + 4)⟩]) (
 .ret)))
@[go_sem] theorem rs69 : Go.Proofs.Try.f69.results.toList = [.tmp 4] := by kernel_rfl
theorem en69 : Enters Q 69 := enters_of Go.Proofs.Try.func69 rfl (by kernel_rfl)
theorem k69 (nb : Nat) : sk nb Go.Proofs.Try.f69.ntmps (Go.Proofs.Try.f69.body.getD .skip) = some (c69 nb) := by kernel_rfl
/-- (smalto/ledger.account).truths$1 -/
noncomputable def c70 (nb : Nat) : SC :=
 .seq (
 .ops [⟨some 6, (.box 82 (.tmp 0)), 0, none, some (nb + 6)⟩,
   ⟨some 9, (.assign (.const (.bool false))), 4, none, some (nb + 9)⟩]) (
 .seq (
 .seq (
 .ops [⟨some 11, (.move (.tmp 1)), 3, none, some (nb + 11)⟩,
   ⟨some 12, (.fieldAddr 85 (.tmp 3) 3), 0, none, some (nb + 12)⟩,
   ⟨some 13, (.load 3 (.tmp 12)), 3, none, some (nb + 13)⟩,
   ⟨some 14, (.binOp .eql 3 (.tmp 11) (.tmp 13) 3), 4, none, some (nb + 14)⟩]) (
 .cond (.tmp 14) (
  .seq (
  .ops [⟨some 15, (.load 141 (.tmp 4)), 141, none, some (nb + 15)⟩,
    ⟨some 16, (.load 82 (.tmp 6)), 82, none, some (nb + 16)⟩,
    ⟨some 17, (.move (.tmp 2)), 3, none, some (nb + 17)⟩,
    ⟨some 18, (.call { callee := .value (.tmp 15), args := #[(.tmp 16), (.tmp 17)], argTypes := #[82, 3] }), 4, none, some (nb + 18)⟩,
    ⟨some 9, (.assign (.tmp 18)), 4, none, some (nb + 9)⟩]) (
  .ret)) (
  .skip))) (
 .seq (
 .seq (
 .ops [⟨some 19, (.move (.tmp 1)), 3, none, some (nb + 19)⟩,
   ⟨some 20, (.fieldAddr 85 (.tmp 3) 2), 0, none, some (nb + 20)⟩,
   ⟨some 21, (.indexAddr 83 (.tmp 20) (.tmp 19)), 0, none, some (nb + 21)⟩,
   ⟨some 22, (.fieldAddr 38 (.tmp 21) 0), 0, none, some (nb + 22)⟩,
   ⟨some 23, (.load 3 (.tmp 22)), 3, none, some (nb + 23)⟩,
   ⟨some 10, (.assign (.tmp 23)), 3, none, some (nb + 10)⟩]) (
 .block 0 (
  .loop (
   .seq (
   .seq (
   .ops [⟨some 24, (.move (.tmp 10)), 3, none, some (nb + 24)⟩,
     ⟨some 25, (.move (.tmp 1)), 3, none, some (nb + 25)⟩,
     ⟨some 26, (.fieldAddr 85 (.tmp 3) 2), 0, none, some (nb + 26)⟩,
     ⟨some 27, (.indexAddr 83 (.tmp 26) (.tmp 25)), 0, none, some (nb + 27)⟩,
     ⟨some 28, (.fieldAddr 38 (.tmp 27) 1), 0, none, some (nb + 28)⟩,
     ⟨some 29, (.load 3 (.tmp 28)), 3, none, some (nb + 29)⟩,
     ⟨some 30, (.binOp .leq 3 (.tmp 24) (.tmp 29) 3), 4, none, some (nb + 30)⟩]) (
   .cond (.tmp 30) (
    .skip) (
    .exit 0))) (
   .seq (
   .block 1 (
    .seq (
    .ops [⟨some 33, (.move (.tmp 1)), 3, none, some (nb + 33)⟩,
      ⟨some 34, (.move (.tmp 10)), 3, none, some (nb + 34)⟩,
      ⟨some 35, (.indexAddr 82 (.tmp 6) (.tmp 33)), 0, none, some (nb + 35)⟩,
      ⟨none, (.store 3 (.tmp 35) (.tmp 34)), 0, none, none⟩]) (
    .seq (
    .ops [⟨some 36, (.load 142 (.tmp 5)), 142, none, some (nb + 36)⟩,
      ⟨some 37, (.load 82 (.tmp 6)), 82, none, some (nb + 37)⟩,
      ⟨some 38, (.move (.tmp 1)), 3, none, some (nb + 38)⟩,
      ⟨some 39, (.binOp .add 3 (.tmp 38) (.const (.int .i64 1)) 3), 3, none, some (nb + 39)⟩,
      ⟨some 40, (.move (.tmp 2)), 3, none, some (nb + 40)⟩,
      ⟨some 41, (.move (.tmp 10)), 3, none, some (nb + 41)⟩,
      ⟨some 42, (.move (.tmp 1)), 3, none, some (nb + 42)⟩,
      ⟨some 43, (.fieldAddr 85 (.tmp 3) 1), 0, none, some (nb + 43)⟩,
      ⟨some 44, (.indexAddr 82 (.tmp 43) (.tmp 42)), 0, none, some (nb + 44)⟩,
      ⟨some 45, (.load 3 (.tmp 44)), 3, none, some (nb + 45)⟩,
      ⟨some 46, (.binOp .mul 3 (.tmp 41) (.tmp 45) 3), 3, none, some (nb + 46)⟩,
      ⟨some 47, (.binOp .sub 3 (.tmp 40) (.tmp 46) 3), 3, none, some (nb + 47)⟩,
      ⟨some 48, (.call { callee := .value (.tmp 36), args := #[(.tmp 37), (.tmp 39), (.tmp 47)], argTypes := #[82, 3, 3] }), 4, none, some (nb + 48)⟩,
      ⟨some 49, (.unOp .not 4 (.tmp 48)), 4, none, some (nb + 49)⟩]) (
    .cond (.tmp 49) (
     .seq (
     .ops [⟨some 9, (.assign (.const (.bool false))), 4, none, some (nb + 9)⟩]) (
     .ret)) (
     .skip))))) (
   .ops [⟨some 31, (.move (.tmp 10)), 3, none, some (nb + 31)⟩,
     ⟨some 32, (.binOp .add 3 (.tmp 31) (.const (.int .i64 1)) 3), 3, none, some (nb + 32)⟩,
     ⟨some 10, (.assign (.tmp 32)), 3, none, some (nb + 10)⟩])))))) (
 .seq (
 .ops [⟨some 9, (.assign (.const (.bool true))), 4, none, some (nb + 9)⟩]) (
 .ret))))
@[go_sem] theorem rs70 : Go.Proofs.Try.f70.results.toList = [.tmp 9] := by kernel_rfl
theorem en70 : Enters Q 70 := enters_of Go.Proofs.Try.func70 rfl (by kernel_rfl)
theorem k70 (nb : Nat) : sk nb Go.Proofs.Try.f70.ntmps (Go.Proofs.Try.f70.body.getD .skip) = some (c70 nb) := by kernel_rfl
/-- smalto/coat.Check$1 -/
noncomputable def c71 (nb : Nat) : SC :=
 .seq (
 .ops [⟨some 1, (.box 105 (.tmp 0)), 0, none, some (nb + 1)⟩,
   ⟨some 2, (.assign (.const (.bool false))), 4, none, some (nb + 2)⟩]) (
 .seq (
 .ops [⟨some 3, (.fieldAddr 105 (.tmp 1) 0), 0, none, some (nb + 3)⟩,
   ⟨some 4, (.load 38 (.tmp 3)), 38, none, some (nb + 4)⟩,
   ⟨some 5, (.call { callee := .value (.func 53), args := #[(.const (.int .i64 1)), (.const (.int .i64 60)), (.tmp 4)], argTypes := #[3, 3, 38] }), 4, none, some (nb + 5)⟩,
   ⟨some 6, (.unOp .not 4 (.tmp 5)), 4, none, some (nb + 6)⟩,
   ⟨some 7, (.move (.tmp 6)), 4, none, some (nb + 7)⟩,
   ⟨some 8, (.fieldAddr 105 (.tmp 1) 0), 0, some (7, false), some (nb + 8)⟩,
   ⟨some 9, (.fieldAddr 38 (.tmp 8) 1), 0, some (7, false), some (nb + 9)⟩,
   ⟨some 10, (.load 3 (.tmp 9)), 3, some (7, false), some (nb + 10)⟩,
   ⟨some 11, (.fieldAddr 105 (.tmp 1) 0), 0, some (7, false), some (nb + 11)⟩,
   ⟨some 12, (.fieldAddr 38 (.tmp 11) 0), 0, some (7, false), some (nb + 12)⟩,
   ⟨some 13, (.load 3 (.tmp 12)), 3, some (7, false), some (nb + 13)⟩,
   ⟨some 14, (.binOp .sub 3 (.tmp 10) (.tmp 13) 3), 3, some (7, false), some (nb + 14)⟩,
   ⟨some 15, (.binOp .geq 3 (.tmp 14) (.const (.int .i64 10)) 3), 4, some (7, false), some (nb + 15)⟩,
   ⟨some 16, (.pick (.tmp 7) (.const (.bool true)) (.tmp 15)), 4, none, some (nb + 16)⟩,
   ⟨some 17, (.move (.tmp 16)), 4, none, some (nb + 17)⟩,
   ⟨some 18, (.fieldAddr 105 (.tmp 1) 1), 0, some (17, false), some (nb + 18)⟩,
   ⟨some 19, (.load 38 (.tmp 18)), 38, some (17, false), some (nb + 19)⟩,
   ⟨some 20, (.call { callee := .value (.func 53), args := #[(.const (.int .i64 0)), (.const (.int .i64 20)), (.tmp 19)], argTypes := #[3, 3, 38] }), 4, some (17, false), some (nb + 20)⟩,
   ⟨some 21, (.unOp .not 4 (.tmp 20)), 4, some (17, false), some (nb + 21)⟩,
   ⟨some 22, (.pick (.tmp 17) (.const (.bool true)) (.tmp 21)), 4, none, some (nb + 22)⟩,
   ⟨some 23, (.move (.tmp 22)), 4, none, some (nb + 23)⟩,
   ⟨some 24, (.fieldAddr 105 (.tmp 1) 2), 0, some (23, false), some (nb + 24)⟩,
   ⟨some 25, (.load 3 (.tmp 24)), 3, some (23, false), some (nb + 25)⟩,
   ⟨some 26, (.buildSlice 29 1 #[(0, (.tmp 25))]), 29, some (23, false), some (nb + 26)⟩,
   ⟨some 27, (.call { callee := .value (.func 19), args := #[(.const (.int .i64 0)), (.const (.int .i64 100)), (.tmp 26)], argTypes := #[3, 3, 29] }), 4, some (23, false), some (nb + 27)⟩,
   ⟨some 28, (.unOp .not 4 (.tmp 27)), 4, some (23, false), some (nb + 28)⟩,
   ⟨some 29, (.pick (.tmp 23) (.const (.bool true)) (.tmp 28)), 4, none, some (nb + 29)⟩,
   ⟨some 2, (.assign (.tmp 29)), 4, none, some (nb + 2)⟩]) (
 .ret))
@[go_sem] theorem rs71 : Go.Proofs.Try.f71.results.toList = [.tmp 2] := by kernel_rfl
theorem en71 : Enters Q 71 := enters_of Go.Proofs.Try.func71 rfl (by kernel_rfl)
theorem k71 (nb : Nat) : sk nb Go.Proofs.Try.f71.ntmps (Go.Proofs.Try.f71.body.getD .skip) = some (c71 nb) := by kernel_rfl
/-- slices.ContainsFunc[[]smalto/api.CoatSlip,smalto/api.CoatSlip] -/
noncomputable def c72 (nb : Nat) : SC :=
 .seq (
 .ops [⟨some 4, (.assign (.const (.bool false))), 4, none, some (nb + 4)⟩]) (
 .seq (
 .ops [⟨some 5, (.move (.tmp 0)), 25, none, some (nb + 5)⟩,
   ⟨some 6, (.move (.tmp 1)), 143, none, some (nb + 6)⟩,
   ⟨some 7, (.call { callee := .value (.func 78), args := #[(.tmp 5), (.tmp 6)], argTypes := #[25, 143] }), 3, none, some (nb + 7)⟩,
   ⟨some 8, (.binOp .geq 3 (.tmp 7) (.const (.int .i64 0)) 3), 4, none, some (nb + 8)⟩,
   ⟨some 4, (.assign (.tmp 8)), 4, none, some (nb + 4)⟩]) (
 .ret))
@[go_sem] theorem rs72 : Go.Proofs.Try.f72.results.toList = [.tmp 4] := by kernel_rfl
theorem en72 : Enters Q 72 := enters_of Go.Proofs.Try.func72 rfl (by kernel_rfl)
theorem k72 (nb : Nat) : sk nb Go.Proofs.Try.f72.ntmps (Go.Proofs.Try.f72.body.getD .skip) = some (c72 nb) := by kernel_rfl
/-- slices.IndexFunc[[]smalto/api.LedgerEntry,smalto/api.LedgerEntry] -/
noncomputable def c73 (nb : Nat) : SC :=
 .seq (
 .ops [⟨some 4, (.assign (.const (.int .i64 0))), 3, none, some (nb + 4)⟩]) (
 .seq (
 .seq (
 .ops [⟨some 6, (.move (.tmp 0)), 30, none, some (nb + 6)⟩,
   ⟨some 7, (.call { callee := .builtin .len, args := #[(.tmp 6)], argTypes := #[30] }), 3, none, some (nb + 7)⟩,
   ⟨some 8, (.move (.const (.int .i64 0))), 3, none, some (nb + 8)⟩]) (
 .block 0 (
  .loop (
   .seq (
   .ops [⟨some 9, (.binOp .lss 3 (.tmp 8) (.tmp 7) 3), 0, none, some (nb + 9)⟩]) (
   .seq (
   .cond (.tmp 9) (
    .skip) (
    .exit 0)) (
   .seq (
   .block 1 (
    .seq (
    .ops [⟨some 10, (.move (.tmp 8)), 3, none, some (nb + 10)⟩,
      ⟨some 5, (.assign (.tmp 10)), 3, none, some (nb + 5)⟩]) (
    .seq (
    .ops [⟨some 11, (.move (.tmp 1)), 132, none, some (nb + 11)⟩,
      ⟨some 12, (.move (.tmp 0)), 30, none, some (nb + 12)⟩,
      ⟨some 13, (.move (.tmp 5)), 3, none, some (nb + 13)⟩,
      ⟨some 14, (.indexAddr 30 (.tmp 12) (.tmp 13)), 0, none, some (nb + 14)⟩,
      ⟨some 15, (.load 92 (.tmp 14)), 92, none, some (nb + 15)⟩,
      ⟨some 16, (.call { callee := .value (.tmp 11), args := #[(.tmp 15)], argTypes := #[92] }), 4, none, some (nb + 16)⟩]) (
    .cond (.tmp 16) (
     .seq (
     .ops [⟨some 17, (.move (.tmp 5)), 3, none, some (nb + 17)⟩,
       ⟨some 4, (.assign (.tmp 17)), 3, none, some (nb + 4)⟩]) (
     .ret)) (
     .skip))))) (
   .ops [⟨some 18, (.binOp .add 3 (.tmp 8) (.const (.int .i64 1)) 3), 3, none, some (nb + 18)⟩,
     ⟨some 8, (.move (.tmp 18)), 3, none, some (nb + 8)⟩]))))))) (
 .seq (
 .ops [⟨some 4, (.assign (.const (.int .i64 (-1)))), 3, none, some (nb + 4)⟩]) (
 .ret)))
@[go_sem] theorem rs73 : Go.Proofs.Try.f73.results.toList = [.tmp 4] := by kernel_rfl
theorem en73 : Enters Q 73 := enters_of Go.Proofs.Try.func73 rfl (by kernel_rfl)
theorem k73 (nb : Nat) : sk nb Go.Proofs.Try.f73.ntmps (Go.Proofs.Try.f73.body.getD .skip) = some (c73 nb) := by kernel_rfl
/-- slices.IndexFunc[[]smalto/api.LedgerRecipe,smalto/api.LedgerRecipe] -/
noncomputable def c74 (nb : Nat) : SC :=
 .seq (
 .ops [⟨some 4, (.assign (.const (.int .i64 0))), 3, none, some (nb + 4)⟩]) (
 .seq (
 .seq (
 .ops [⟨some 6, (.move (.tmp 0)), 31, none, some (nb + 6)⟩,
   ⟨some 7, (.call { callee := .builtin .len, args := #[(.tmp 6)], argTypes := #[31] }), 3, none, some (nb + 7)⟩,
   ⟨some 8, (.move (.const (.int .i64 0))), 3, none, some (nb + 8)⟩]) (
 .block 0 (
  .loop (
   .seq (
   .ops [⟨some 9, (.binOp .lss 3 (.tmp 8) (.tmp 7) 3), 0, none, some (nb + 9)⟩]) (
   .seq (
   .cond (.tmp 9) (
    .skip) (
    .exit 0)) (
   .seq (
   .block 1 (
    .seq (
    .ops [⟨some 10, (.move (.tmp 8)), 3, none, some (nb + 10)⟩,
      ⟨some 5, (.assign (.tmp 10)), 3, none, some (nb + 5)⟩]) (
    .seq (
    .ops [⟨some 11, (.move (.tmp 1)), 133, none, some (nb + 11)⟩,
      ⟨some 12, (.move (.tmp 0)), 31, none, some (nb + 12)⟩,
      ⟨some 13, (.move (.tmp 5)), 3, none, some (nb + 13)⟩,
      ⟨some 14, (.indexAddr 31 (.tmp 12) (.tmp 13)), 0, none, some (nb + 14)⟩,
      ⟨some 15, (.load 67 (.tmp 14)), 67, none, some (nb + 15)⟩,
      ⟨some 16, (.call { callee := .value (.tmp 11), args := #[(.tmp 15)], argTypes := #[67] }), 4, none, some (nb + 16)⟩]) (
    .cond (.tmp 16) (
     .seq (
     .ops [⟨some 17, (.move (.tmp 5)), 3, none, some (nb + 17)⟩,
       ⟨some 4, (.assign (.tmp 17)), 3, none, some (nb + 4)⟩]) (
     .ret)) (
     .skip))))) (
   .ops [⟨some 18, (.binOp .add 3 (.tmp 8) (.const (.int .i64 1)) 3), 3, none, some (nb + 18)⟩,
     ⟨some 8, (.move (.tmp 18)), 3, none, some (nb + 8)⟩]))))))) (
 .seq (
 .ops [⟨some 4, (.assign (.const (.int .i64 (-1)))), 3, none, some (nb + 4)⟩]) (
 .ret)))
@[go_sem] theorem rs74 : Go.Proofs.Try.f74.results.toList = [.tmp 4] := by kernel_rfl
theorem en74 : Enters Q 74 := enters_of Go.Proofs.Try.func74 rfl (by kernel_rfl)
theorem k74 (nb : Nat) : sk nb Go.Proofs.Try.f74.ntmps (Go.Proofs.Try.f74.body.getD .skip) = some (c74 nb) := by kernel_rfl
/-- slices.IndexFunc[[]smalto/api.LedgerMade,smalto/api.LedgerMade] -/
noncomputable def c75 (nb : Nat) : SC :=
 .seq (
 .ops [⟨some 4, (.assign (.const (.int .i64 0))), 3, none, some (nb + 4)⟩]) (
 .seq (
 .seq (
 .ops [⟨some 6, (.move (.tmp 0)), 32, none, some (nb + 6)⟩,
   ⟨some 7, (.call { callee := .builtin .len, args := #[(.tmp 6)], argTypes := #[32] }), 3, none, some (nb + 7)⟩,
   ⟨some 8, (.move (.const (.int .i64 0))), 3, none, some (nb + 8)⟩]) (
 .block 0 (
  .loop (
   .seq (
   .ops [⟨some 9, (.binOp .lss 3 (.tmp 8) (.tmp 7) 3), 0, none, some (nb + 9)⟩]) (
   .seq (
   .cond (.tmp 9) (
    .skip) (
    .exit 0)) (
   .seq (
   .block 1 (
    .seq (
    .ops [⟨some 10, (.move (.tmp 8)), 3, none, some (nb + 10)⟩,
      ⟨some 5, (.assign (.tmp 10)), 3, none, some (nb + 5)⟩]) (
    .seq (
    .ops [⟨some 11, (.move (.tmp 1)), 134, none, some (nb + 11)⟩,
      ⟨some 12, (.move (.tmp 0)), 32, none, some (nb + 12)⟩,
      ⟨some 13, (.move (.tmp 5)), 3, none, some (nb + 13)⟩,
      ⟨some 14, (.indexAddr 32 (.tmp 12) (.tmp 13)), 0, none, some (nb + 14)⟩,
      ⟨some 15, (.load 69 (.tmp 14)), 69, none, some (nb + 15)⟩,
      ⟨some 16, (.call { callee := .value (.tmp 11), args := #[(.tmp 15)], argTypes := #[69] }), 4, none, some (nb + 16)⟩]) (
    .cond (.tmp 16) (
     .seq (
     .ops [⟨some 17, (.move (.tmp 5)), 3, none, some (nb + 17)⟩,
       ⟨some 4, (.assign (.tmp 17)), 3, none, some (nb + 4)⟩]) (
     .ret)) (
     .skip))))) (
   .ops [⟨some 18, (.binOp .add 3 (.tmp 8) (.const (.int .i64 1)) 3), 3, none, some (nb + 18)⟩,
     ⟨some 8, (.move (.tmp 18)), 3, none, some (nb + 8)⟩]))))))) (
 .seq (
 .ops [⟨some 4, (.assign (.const (.int .i64 (-1)))), 3, none, some (nb + 4)⟩]) (
 .ret)))
@[go_sem] theorem rs75 : Go.Proofs.Try.f75.results.toList = [.tmp 4] := by kernel_rfl
theorem en75 : Enters Q 75 := enters_of Go.Proofs.Try.func75 rfl (by kernel_rfl)
theorem k75 (nb : Nat) : sk nb Go.Proofs.Try.f75.ntmps (Go.Proofs.Try.f75.body.getD .skip) = some (c75 nb) := by kernel_rfl
/-- slices.insertionSortCmpFunc[int] -/
noncomputable def c76 (nb : Nat) : SC :=
 .seq (
 .ops [⟨some 10, (.move (.tmp 1)), 3, none, some (nb + 10)⟩,
   ⟨some 11, (.binOp .add 3 (.tmp 10) (.const (.int .i64 1)) 3), 3, none, some (nb + 11)⟩,
   ⟨some 8, (.assign (.tmp 11)), 3, none, some (nb + 8)⟩]) (
 .block 0 (
  .loop (
   .seq (
   .seq (
   .ops [⟨some 12, (.move (.tmp 8)), 3, none, some (nb + 12)⟩,
     ⟨some 13, (.move (.tmp 2)), 3, none, some (nb + 13)⟩,
     ⟨some 14, (.binOp .lss 3 (.tmp 12) (.tmp 13) 3), 4, none, some (nb + 14)⟩]) (
   .cond (.tmp 14) (
    .skip) (
    .exit 0))) (
   .seq (
   .block 1 (
    .seq (
    .ops [⟨some 17, (.move (.tmp 8)), 3, none, some (nb + 17)⟩,
      ⟨some 9, (.assign (.tmp 17)), 3, none, some (nb + 9)⟩]) (
    .block 2 (
     .loop (
      .seq (
      .seq (
      .ops [⟨some 18, (.move (.tmp 9)), 3, none, some (nb + 18)⟩,
        ⟨some 19, (.move (.tmp 1)), 3, none, some (nb + 19)⟩,
        ⟨some 20, (.binOp .gtr 3 (.tmp 18) (.tmp 19) 3), 4, none, some (nb + 20)⟩,
        ⟨some 21, (.move (.tmp 20)), 4, none, some (nb + 21)⟩,
        ⟨some 22, (.move (.tmp 3)), 124, some (21, true), some (nb + 22)⟩,
        ⟨some 23, (.move (.tmp 0)), 29, some (21, true), some (nb + 23)⟩,
        ⟨some 24, (.move (.tmp 9)), 3, some (21, true), some (nb + 24)⟩,
        ⟨some 25, (.indexAddr 29 (.tmp 23) (.tmp 24)), 0, some (21, true), some (nb + 25)⟩,
        ⟨some 26, (.load 3 (.tmp 25)), 3, some (21, true), some (nb + 26)⟩,
        ⟨some 27, (.move (.tmp 0)), 29, some (21, true), some (nb + 27)⟩,
        ⟨some 28, (.move (.tmp 9)), 3, some (21, true), some (nb + 28)⟩,
        ⟨some 29, (.binOp .sub 3 (.tmp 28) (.const (.int .i64 1)) 3), 3, some (21, true), some (nb + 29)⟩,
        ⟨some 30, (.indexAddr 29 (.tmp 27) (.tmp 29)), 0, some (21, true), some (nb + 30)⟩,
        ⟨some 31, (.load 3 (.tmp 30)), 3, some (21, true), some (nb + 31)⟩,
        ⟨some 32, (.call { callee := .value (.tmp 22), args := #[(.tmp 26), (.tmp 31)], argTypes := #[3, 3] }), 3, some (21, true), some (nb + 32)⟩,
        ⟨some 33, (.binOp .lss 3 (.tmp 32) (.const (.int .i64 0)) 3), 4, some (21, true), some (nb + 33)⟩,
        ⟨some 34, (.pick (.tmp 21) (.tmp 33) (.const (.bool false))), 4, none, some (nb + 34)⟩]) (
      .cond (.tmp 34) (
       .skip) (
       .exit 2))) (
      .seq (
      .block 3 (
       .ops [⟨some 37, (.move (.tmp 0)), 29, none, some (nb + 37)⟩,
         ⟨some 38, (.move (.tmp 9)), 3, none, some (nb + 38)⟩,
         ⟨some 39, (.move (.tmp 0)), 29, none, some (nb + 39)⟩,
         ⟨some 40, (.move (.tmp 9)), 3, none, some (nb + 40)⟩,
         ⟨some 41, (.binOp .sub 3 (.tmp 40) (.const (.int .i64 1)) 3), 3, none, some (nb + 41)⟩,
         ⟨some 42, (.move (.tmp 0)), 29, none, some (nb + 42)⟩,
         ⟨some 43, (.move (.tmp 9)), 3, none, some (nb + 43)⟩,
         ⟨some 44, (.binOp .sub 3 (.tmp 43) (.const (.int .i64 1)) 3), 3, none, some (nb + 44)⟩,
         ⟨some 45, (.indexAddr 29 (.tmp 42) (.tmp 44)), 0, none, some (nb + 45)⟩,
         ⟨some 46, (.load 3 (.tmp 45)), 3, none, some (nb + 46)⟩,
         ⟨some 47, (.move (.tmp 0)), 29, none, some (nb + 47)⟩,
         ⟨some 48, (.move (.tmp 9)), 3, none, some (nb + 48)⟩,
         ⟨some 49, (.indexAddr 29 (.tmp 47) (.tmp 48)), 0, none, some (nb + 49)⟩,
         ⟨some 50, (.load 3 (.tmp 49)), 3, none, some (nb + 50)⟩,
         ⟨some 51, (.indexAddr 29 (.tmp 37) (.tmp 38)), 0, none, some (nb + 51)⟩,
         ⟨none, (.store 3 (.tmp 51) (.tmp 46)), 0, none, none⟩,
         ⟨some 52, (.indexAddr 29 (.tmp 39) (.tmp 41)), 0, none, some (nb + 52)⟩,
         ⟨none, (.store 3 (.tmp 52) (.tmp 50)), 0, none, none⟩])) (
      .ops [⟨some 35, (.move (.tmp 9)), 3, none, some (nb + 35)⟩,
        ⟨some 36, (.binOp .sub 3 (.tmp 35) (.const (.int .i64 1)) 3), 3, none, some (nb + 36)⟩,
        ⟨some 9, (.assign (.tmp 36)), 3, none, some (nb + 9)⟩]))))))) (
   .ops [⟨some 15, (.move (.tmp 8)), 3, none, some (nb + 15)⟩,
     ⟨some 16, (.binOp .add 3 (.tmp 15) (.const (.int .i64 1)) 3), 3, none, some (nb + 16)⟩,
     ⟨some 8, (.assign (.tmp 16)), 3, none, some (nb + 8)⟩])))))
@[go_sem] theorem rs76 : Go.Proofs.Try.f76.results.toList = [] := by kernel_rfl
theorem en76 : Enters Q 76 := enters_of Go.Proofs.Try.func76 rfl (by kernel_rfl)
theorem k76 (nb : Nat) : sk nb Go.Proofs.Try.f76.ntmps (Go.Proofs.Try.f76.body.getD .skip) = some (c76 nb) := by kernel_rfl
end S12

