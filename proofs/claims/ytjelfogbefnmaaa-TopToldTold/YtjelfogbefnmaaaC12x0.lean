/- A part of the proof: C12x0, C12x1. -/
import Derived.Test.YtjelfogbefnmaaaF12
set_option linter.unusedVariables false
set_option linter.unusedSimpArgs false
set_option maxRecDepth 20000
namespace S12
open Go Abs
/-- smalto/smaltotop.TopJobsMade -/
noncomputable def c3 (nb : Nat) : SC :=
 .seq (
 .ops [⟨some 3, (.box 22 (.tmp 0)), 0, none, some (nb + 3)⟩,
   ⟨some 6, (.assign (.const (.bool false))), 4, none, some (nb + 6)⟩]) (
 .seq (
 .ops [⟨some 24, (.indexAddr 22 (.tmp 3) (.const (.int .i64 0))), 0, none, some (nb + 24)⟩,
   ⟨some 25, (.load 5 (.tmp 24)), 5, none, some (nb + 25)⟩,
   ⟨some 26, (.convert 5 3 (.tmp 25)), 3, none, some (nb + 26)⟩,
   ⟨some 27, (.binOp .rem 3 (.tmp 26) (.const (.int .i64 12)) 3), 3, none, some (nb + 27)⟩,
   ⟨some 28, (.move (.tmp 2)), 24, none, some (nb + 28)⟩,
   ⟨some 29, (.convert 24 3 (.tmp 28)), 3, none, some (nb + 29)⟩,
   ⟨some 30, (.binOp .rem 3 (.tmp 29) (.const (.int .i64 9000)) 3), 3, none, some (nb + 30)⟩,
   ⟨some 7, (.assign (.tmp 27)), 3, none, some (nb + 7)⟩,
   ⟨some 8, (.assign (.tmp 30)), 3, none, some (nb + 8)⟩]) (
 .seq (
 .ops [⟨some 32, (.move (.tmp 7)), 3, none, some (nb + 32)⟩,
   ⟨some 33, (.move (.tmp 7)), 3, none, some (nb + 33)⟩,
   ⟨some 34, (.indexAddr 22 (.tmp 3) (.const (.int .i64 1))), 0, none, some (nb + 34)⟩,
   ⟨some 35, (.load 5 (.tmp 34)), 5, none, some (nb + 35)⟩,
   ⟨some 36, (.convert 5 3 (.tmp 35)), 3, none, some (nb + 36)⟩,
   ⟨some 37, (.binOp .rem 3 (.tmp 36) (.const (.int .i64 8)) 3), 3, none, some (nb + 37)⟩,
   ⟨some 38, (.binOp .add 3 (.tmp 33) (.tmp 37) 3), 3, none, some (nb + 38)⟩,
   ⟨some 39, (.call { callee := .value (.func 6), args := #[(.tmp 32), (.tmp 38)], argTypes := #[3, 3] }), 38, none, some (nb + 39)⟩,
   ⟨some 40, (.move (.tmp 8)), 3, none, some (nb + 40)⟩,
   ⟨some 41, (.move (.tmp 1)), 23, none, some (nb + 41)⟩,
   ⟨some 42, (.call { callee := .value (.func 5), args := #[(.tmp 39), (.tmp 40), (.tmp 41)], argTypes := #[38, 3, 23] }), 35, none, some (nb + 42)⟩,
   ⟨some 31, (.move (.tmp 42)), 35, none, some (nb + 31)⟩,
   ⟨some 43, (.extract (.tmp 31) 0), 27, none, some (nb + 43)⟩,
   ⟨some 44, (.extract (.tmp 31) 1), 28, none, some (nb + 44)⟩,
   ⟨some 45, (.extract (.tmp 31) 2), 34, none, some (nb + 45)⟩,
   ⟨some 9, (.alloc 27), 0, none, some (nb + 9)⟩,
   ⟨some 11, (.alloc 34), 0, none, some (nb + 11)⟩,
   ⟨none, (.store 27 (.tmp 9) (.tmp 43)), 0, none, none⟩,
   ⟨some 10, (.assign (.tmp 44)), 28, none, some (nb + 10)⟩,
   ⟨none, (.store 34 (.tmp 11) (.tmp 45)), 0, none, none⟩]) (
 .seq (
 .ops [⟨some 47, (.load 27 (.tmp 9)), 27, none, some (nb + 47)⟩,
   ⟨some 48, (.call { callee := .value (.func 8), args := #[(.tmp 47)], argTypes := #[27] }), 27, none, some (nb + 48)⟩,
   ⟨some 49, (.buildSlice 28 0 #[]), 28, none, some (nb + 49)⟩,
   ⟨some 50, (.move (.tmp 10)), 28, none, some (nb + 50)⟩,
   ⟨some 51, (.call { callee := .builtin .append, args := #[(.tmp 49), (.tmp 50)], argTypes := #[28, 28] }), 28, none, some (nb + 51)⟩,
   ⟨some 52, (.call { callee := .value (.func 7), args := #[(.tmp 48), (.tmp 51)], argTypes := #[27, 28] }), 42, none, some (nb + 52)⟩,
   ⟨some 46, (.move (.tmp 52)), 42, none, some (nb + 46)⟩,
   ⟨some 53, (.extract (.tmp 46) 0), 40, none, some (nb + 53)⟩,
   ⟨some 54, (.extract (.tmp 46) 1), 41, none, some (nb + 54)⟩,
   ⟨some 12, (.assign (.tmp 53)), 40, none, some (nb + 12)⟩,
   ⟨some 13, (.assign (.tmp 54)), 41, none, some (nb + 13)⟩]) (
 .seq (
 .ops [⟨some 56, (.load 27 (.tmp 9)), 27, none, some (nb + 56)⟩,
   ⟨some 57, (.move (.tmp 10)), 28, none, some (nb + 57)⟩,
   ⟨some 58, (.move (.tmp 8)), 3, none, some (nb + 58)⟩,
   ⟨some 59, (.buildSlice 29 1 #[(0, (.tmp 58))]), 29, none, some (nb + 59)⟩,
   ⟨some 60, (.call { callee := .value (.func 9), args := #[(.tmp 56), (.tmp 57), (.tmp 59)], argTypes := #[27, 28, 29] }), 45, none, some (nb + 60)⟩,
   ⟨some 55, (.move (.tmp 60)), 45, none, some (nb + 55)⟩,
   ⟨some 61, (.extract (.tmp 55) 0), 3, none, some (nb + 61)⟩,
   ⟨some 62, (.extract (.tmp 55) 1), 3, none, some (nb + 62)⟩,
   ⟨some 63, (.extract (.tmp 55) 2), 41, none, some (nb + 63)⟩,
   ⟨some 14, (.assign (.tmp 61)), 3, none, some (nb + 14)⟩,
   ⟨some 15, (.assign (.tmp 62)), 3, none, some (nb + 15)⟩,
   ⟨some 16, (.assign (.tmp 63)), 41, none, some (nb + 16)⟩]) (
 .seq (
 .ops [⟨some 65, (.load 34 (.tmp 11)), 34, none, some (nb + 65)⟩,
   ⟨some 66, (.call { callee := .value (.func 11), args := #[(.tmp 65)], argTypes := #[34] }), 34, none, some (nb + 66)⟩,
   ⟨some 67, (.call { callee := .value (.func 10), args := #[(.tmp 66)], argTypes := #[34] }), 42, none, some (nb + 67)⟩,
   ⟨some 64, (.move (.tmp 67)), 42, none, some (nb + 64)⟩,
   ⟨some 68, (.extract (.tmp 64) 0), 40, none, some (nb + 68)⟩,
   ⟨some 69, (.extract (.tmp 64) 1), 41, none, some (nb + 69)⟩,
   ⟨some 17, (.assign (.tmp 68)), 40, none, some (nb + 17)⟩,
   ⟨some 18, (.assign (.tmp 69)), 41, none, some (nb + 18)⟩]) (
 .seq (
 .ops [⟨some 71, (.load 34 (.tmp 11)), 34, none, some (nb + 71)⟩,
   ⟨some 72, (.call { callee := .value (.func 11), args := #[(.tmp 71)], argTypes := #[34] }), 34, none, some (nb + 72)⟩,
   ⟨some 73, (.call { callee := .value (.func 12), args := #[(.tmp 72), (.const (.int .i64 0))], argTypes := #[34, 3] }), 45, none, some (nb + 73)⟩,
   ⟨some 70, (.move (.tmp 73)), 45, none, some (nb + 70)⟩,
   ⟨some 74, (.extract (.tmp 70) 0), 3, none, some (nb + 74)⟩,
   ⟨some 75, (.extract (.tmp 70) 1), 3, none, some (nb + 75)⟩,
   ⟨some 76, (.extract (.tmp 70) 2), 41, none, some (nb + 76)⟩,
   ⟨some 19, (.assign (.tmp 74)), 3, none, some (nb + 19)⟩,
   ⟨some 20, (.assign (.tmp 75)), 3, none, some (nb + 20)⟩,
   ⟨some 21, (.assign (.tmp 76)), 41, none, some (nb + 21)⟩]) (
 .seq (
 .seq (
 .opsD [⟨some 77, (.move (.tmp 13)), 41, none, some (nb + 77)⟩,
   ⟨some 78, (.binOp .neq 41 (.tmp 77) (.const (.int .i64 0)) 41), 4, none, some (nb + 78)⟩,
   ⟨some 79, (.move (.tmp 78)), 4, none, some (nb + 79)⟩,
   ⟨some 80, (.move (.tmp 16)), 41, some (79, false), some (nb + 80)⟩,
   ⟨some 81, (.binOp .neq 41 (.tmp 80) (.const (.int .i64 0)) 41), 4, some (79, false), some (nb + 81)⟩,
   ⟨some 82, (.pick (.tmp 79) (.const (.bool true)) (.tmp 81)), 4, none, some (nb + 82)⟩,
   ⟨some 83, (.move (.tmp 82)), 4, none, some (nb + 83)⟩,
   ⟨some 84, (.move (.tmp 18)), 41, some (83, false), some (nb + 84)⟩,
   ⟨some 85, (.binOp .neq 41 (.tmp 84) (.const (.int .i64 0)) 41), 4, some (83, false), some (nb + 85)⟩,
   ⟨some 86, (.pick (.tmp 83) (.const (.bool true)) (.tmp 85)), 4, none, some (nb + 86)⟩,
   ⟨some 87, (.move (.tmp 86)), 4, none, some (nb + 87)⟩,
   ⟨some 88, (.move (.tmp 21)), 41, some (87, false), some (nb + 88)⟩,
   ⟨some 89, (.binOp .neq 41 (.tmp 88) (.const (.int .i64 0)) 41), 4, some (87, false), some (nb + 89)⟩,
   ⟨some 90, (.pick (.tmp 87) (.const (.bool true)) (.tmp 89)), 4, none, some (nb + 90)⟩,
   ⟨some 91, (.move (.tmp 90)), 4, none, some (nb + 91)⟩,
   ⟨some 92, (.move (.tmp 12)), 40, some (91, false), some (nb + 92)⟩,
   ⟨some 93, (.call { callee := .builtin .len, args := #[(.tmp 92)], argTypes := #[40] }), 3, some (91, false), some (nb + 93)⟩,
   ⟨some 94, (.binOp .neq 3 (.tmp 93) (.const (.int .i64 1)) 3), 4, some (91, false), some (nb + 94)⟩,
   ⟨some 95, (.pick (.tmp 91) (.const (.bool true)) (.tmp 94)), 4, none, some (nb + 95)⟩,
   ⟨some 96, (.move (.tmp 95)), 4, none, some (nb + 96)⟩,
   ⟨some 97, (.move (.tmp 17)), 40, some (96, false), some (nb + 97)⟩,
   ⟨some 98, (.call { callee := .builtin .len, args := #[(.tmp 97)], argTypes := #[40] }), 3, some (96, false), some (nb + 98)⟩,
   ⟨some 99, (.binOp .neq 3 (.tmp 98) (.const (.int .i64 1)) 3), 4, some (96, false), some (nb + 99)⟩,
   ⟨some 100, (.pick (.tmp 96) (.const (.bool true)) (.tmp 99)), 4, none, some (nb + 100)⟩,
   ⟨some 101, (.move (.tmp 100)), 4, none, some (nb + 101)⟩,
   ⟨some 102, (.move (.tmp 17)), 40, some (101, false), some (nb + 102)⟩,
   ⟨some 103, (.indexAddr 40 (.tmp 102) (.const (.int .i64 0))), 0, some (101, false), some (nb + 103)⟩,
   ⟨some 104, (.load 38 (.tmp 103)), 38, some (101, false), some (nb + 104)⟩,
   ⟨some 105, (.move (.tmp 8)), 3, some (101, false), some (nb + 105)⟩,
   ⟨some 106, (.move (.tmp 12)), 40, some (101, false), some (nb + 106)⟩,
   ⟨some 107, (.indexAddr 40 (.tmp 106) (.const (.int .i64 0))), 0, some (101, false), some (nb + 107)⟩,
   ⟨some 108, (.fieldAddr 38 (.tmp 107) 1), 0, some (101, false), some (nb + 108)⟩,
   ⟨some 109, (.load 3 (.tmp 108)), 3, some (101, false), some (nb + 109)⟩,
   ⟨some 110, (.binOp .sub 3 (.tmp 105) (.tmp 109) 3), 3, some (101, false), some (nb + 110)⟩,
   ⟨some 111, (.move (.tmp 8)), 3, some (101, false), some (nb + 111)⟩,
   ⟨some 112, (.move (.tmp 12)), 40, some (101, false), some (nb + 112)⟩,
   ⟨some 113, (.indexAddr 40 (.tmp 112) (.const (.int .i64 0))), 0, some (101, false), some (nb + 113)⟩,
   ⟨some 114, (.fieldAddr 38 (.tmp 113) 0), 0, some (101, false), some (nb + 114)⟩,
   ⟨some 115, (.load 3 (.tmp 114)), 3, some (101, false), some (nb + 115)⟩,
   ⟨some 116, (.binOp .sub 3 (.tmp 111) (.tmp 115) 3), 3, some (101, false), some (nb + 116)⟩,
   ⟨some 117, (.call { callee := .value (.func 6), args := #[(.tmp 110), (.tmp 116)], argTypes := #[3, 3] }), 38, some (101, false), some (nb + 117)⟩,
   ⟨some 118, (.binOp .neq 38 (.tmp 104) (.tmp 117) 38), 4, some (101, false), some (nb + 118)⟩,
   ⟨some 119, (.pick (.tmp 101) (.const (.bool true)) (.tmp 118)), 4, none, some (nb + 119)⟩] [(26, 40), (27, 40)]) (
 .cond (.tmp 119) (
  .seq (
  .ops [⟨some 6, (.assign (.const (.bool false))), 4, none, some (nb + 6)⟩]) (
  .ret)) (
  .skip))) (
 .seq (
 .ops [⟨some 22, (.assign (.const (.int .i64 (-1)))), 3, none, some (nb + 22)⟩,
   ⟨some 23, (.assign (.const (.int .i64 (-1)))), 3, none, some (nb + 23)⟩]) (
 .seq (
 .seq (
 .ops [⟨some 120, (.move (.tmp 15)), 3, none, some (nb + 120)⟩,
   ⟨some 121, (.move (.tmp 10)), 28, none, some (nb + 121)⟩,
   ⟨some 122, (.call { callee := .builtin .len, args := #[(.tmp 121)], argTypes := #[28] }), 3, none, some (nb + 122)⟩,
   ⟨some 123, (.binOp .lss 3 (.tmp 120) (.tmp 122) 3), 4, none, some (nb + 123)⟩]) (
 .cond (.tmp 123) (
  .ops [⟨some 124, (.move (.tmp 15)), 3, none, some (nb + 124)⟩,
    ⟨some 125, (.binOp .mul 3 (.const (.int .i64 2)) (.tmp 124) 3), 3, none, some (nb + 125)⟩,
    ⟨some 22, (.assign (.tmp 125)), 3, none, some (nb + 22)⟩]) (
  .skip))) (
 .seq (
 .seq (
 .ops [⟨some 126, (.move (.tmp 14)), 3, none, some (nb + 126)⟩,
   ⟨some 127, (.move (.tmp 10)), 28, none, some (nb + 127)⟩,
   ⟨some 128, (.call { callee := .builtin .len, args := #[(.tmp 127)], argTypes := #[28] }), 3, none, some (nb + 128)⟩,
   ⟨some 129, (.binOp .lss 3 (.tmp 126) (.tmp 128) 3), 4, none, some (nb + 129)⟩]) (
 .cond (.tmp 129) (
  .ops [⟨some 130, (.move (.tmp 14)), 3, none, some (nb + 130)⟩,
    ⟨some 131, (.binOp .mul 3 (.const (.int .i64 2)) (.tmp 130) 3), 3, none, some (nb + 131)⟩,
    ⟨some 23, (.assign (.tmp 131)), 3, none, some (nb + 23)⟩]) (
  .skip))) (
 .seq (
 .ops [⟨some 132, (.move (.tmp 19)), 3, none, some (nb + 132)⟩,
   ⟨some 133, (.move (.tmp 22)), 3, none, some (nb + 133)⟩,
   ⟨some 134, (.binOp .eql 3 (.tmp 132) (.tmp 133) 3), 4, none, some (nb + 134)⟩,
   ⟨some 135, (.move (.tmp 134)), 4, none, some (nb + 135)⟩,
   ⟨some 136, (.move (.tmp 20)), 3, some (135, true), some (nb + 136)⟩,
   ⟨some 137, (.move (.tmp 23)), 3, some (135, true), some (nb + 137)⟩,
   ⟨some 138, (.binOp .eql 3 (.tmp 136) (.tmp 137) 3), 4, some (135, true), some (nb + 138)⟩,
   ⟨some 139, (.pick (.tmp 135) (.tmp 138) (.const (.bool false))), 4, none, some (nb + 139)⟩,
   ⟨some 140, (.move (.tmp 139)), 4, none, some (nb + 140)⟩,
   ⟨some 141, (.call { callee := .value (.func 13), args := #[], argTypes := #[] }), 4, some (140, true), some (nb + 141)⟩,
   ⟨some 142, (.pick (.tmp 140) (.tmp 141) (.const (.bool false))), 4, none, some (nb + 142)⟩,
   ⟨some 6, (.assign (.tmp 142)), 4, none, some (nb + 6)⟩]) (
 .ret))))))))))))
@[go_sem] theorem rs3 : Go.Proofs.Try.f3.results.toList = [.tmp 6] := by kernel_rfl
theorem en3 : Enters Q 3 := enters_of Go.Proofs.Try.func3 rfl (by kernel_rfl)
theorem k3 (nb : Nat) : sk nb Go.Proofs.Try.f3.ntmps (Go.Proofs.Try.f3.body.getD .skip) = some (c3 nb) := by kernel_rfl
/-- smalto/smaltotop.TopToldTold -/
noncomputable def c4 (nb : Nat) : SC :=
 .seq (
 .ops [⟨some 3, (.box 22 (.tmp 0)), 0, none, some (nb + 3)⟩,
   ⟨some 5, (.box 52 (.tmp 2)), 0, none, some (nb + 5)⟩,
   ⟨some 6, (.assign (.const (.bool false))), 4, none, some (nb + 6)⟩]) (
 .seq (
 .ops [⟨some 22, (.indexAddr 22 (.tmp 3) (.const (.int .i64 0))), 0, none, some (nb + 22)⟩,
   ⟨some 23, (.load 5 (.tmp 22)), 5, none, some (nb + 23)⟩,
   ⟨some 24, (.convert 5 3 (.tmp 23)), 3, none, some (nb + 24)⟩,
   ⟨some 25, (.binOp .rem 3 (.tmp 24) (.const (.int .i64 12)) 3), 3, none, some (nb + 25)⟩,
   ⟨some 7, (.assign (.tmp 25)), 3, none, some (nb + 7)⟩,
   ⟨some 8, (.assign (.const (.int .i64 0))), 3, none, some (nb + 8)⟩]) (
 .seq (
 .ops [⟨some 27, (.move (.tmp 7)), 3, none, some (nb + 27)⟩,
   ⟨some 28, (.move (.tmp 7)), 3, none, some (nb + 28)⟩,
   ⟨some 29, (.indexAddr 22 (.tmp 3) (.const (.int .i64 1))), 0, none, some (nb + 29)⟩,
   ⟨some 30, (.load 5 (.tmp 29)), 5, none, some (nb + 30)⟩,
   ⟨some 31, (.convert 5 3 (.tmp 30)), 3, none, some (nb + 31)⟩,
   ⟨some 32, (.binOp .rem 3 (.tmp 31) (.const (.int .i64 8)) 3), 3, none, some (nb + 32)⟩,
   ⟨some 33, (.binOp .add 3 (.tmp 28) (.tmp 32) 3), 3, none, some (nb + 33)⟩,
   ⟨some 34, (.call { callee := .value (.func 6), args := #[(.tmp 27), (.tmp 33)], argTypes := #[3, 3] }), 38, none, some (nb + 34)⟩,
   ⟨some 35, (.move (.tmp 1)), 23, none, some (nb + 35)⟩,
   ⟨some 36, (.call { callee := .value (.func 5), args := #[(.tmp 34), (.const (.int .i64 9000)), (.tmp 35)], argTypes := #[38, 3, 23] }), 35, none, some (nb + 36)⟩,
   ⟨some 26, (.move (.tmp 36)), 35, none, some (nb + 26)⟩,
   ⟨some 37, (.extract (.tmp 26) 0), 27, none, some (nb + 37)⟩,
   ⟨some 38, (.extract (.tmp 26) 1), 28, none, some (nb + 38)⟩,
   ⟨some 39, (.extract (.tmp 26) 2), 34, none, some (nb + 39)⟩,
   ⟨some 9, (.alloc 27), 0, none, some (nb + 9)⟩,
   ⟨some 11, (.alloc 34), 0, none, some (nb + 11)⟩,
   ⟨none, (.store 27 (.tmp 9) (.tmp 37)), 0, none, none⟩,
   ⟨some 10, (.assign (.tmp 38)), 28, none, some (nb + 10)⟩,
   ⟨none, (.store 34 (.tmp 11) (.tmp 39)), 0, none, none⟩]) (
 .seq (
 .seq (
 .ops [⟨some 12, (.assign (.const (.int .i64 0))), 3, none, some (nb + 12)⟩]) (
 .block 0 (
  .loop (
   .seq (
   .seq (
   .ops [⟨some 40, (.move (.tmp 12)), 3, none, some (nb + 40)⟩,
     ⟨some 41, (.move (.tmp 10)), 28, none, some (nb + 41)⟩,
     ⟨some 42, (.call { callee := .builtin .len, args := #[(.tmp 41)], argTypes := #[28] }), 3, none, some (nb + 42)⟩,
     ⟨some 43, (.binOp .lss 3 (.tmp 40) (.tmp 42) 3), 4, none, some (nb + 43)⟩]) (
   .cond (.tmp 43) (
    .skip) (
    .exit 0))) (
   .seq (
   .block 1 (
    .ops [⟨some 46, (.move (.tmp 8)), 3, none, some (nb + 46)⟩,
      ⟨some 47, (.move (.tmp 10)), 28, none, some (nb + 47)⟩,
      ⟨some 48, (.move (.tmp 12)), 3, none, some (nb + 48)⟩,
      ⟨some 49, (.indexAddr 28 (.tmp 47) (.tmp 48)), 0, none, some (nb + 49)⟩,
      ⟨some 50, (.fieldAddr 54 (.tmp 49) 0), 0, none, some (nb + 50)⟩,
      ⟨some 51, (.load 3 (.tmp 50)), 3, none, some (nb + 51)⟩,
      ⟨some 52, (.binOp .add 3 (.tmp 46) (.tmp 51) 3), 3, none, some (nb + 52)⟩,
      ⟨some 8, (.assign (.tmp 52)), 3, none, some (nb + 8)⟩])) (
   .ops [⟨some 44, (.move (.tmp 12)), 3, none, some (nb + 44)⟩,
     ⟨some 45, (.binOp .add 3 (.tmp 44) (.const (.int .i64 1)) 3), 3, none, some (nb + 45)⟩,
     ⟨some 12, (.assign (.tmp 45)), 3, none, some (nb + 12)⟩])))))) (
 .seq (
 .seq (
 .ops [⟨some 53, (.move (.tmp 8)), 3, none, some (nb + 53)⟩,
   ⟨some 54, (.binOp .eql 3 (.tmp 53) (.const (.int .i64 0)) 3), 4, none, some (nb + 54)⟩,
   ⟨some 55, (.move (.tmp 54)), 4, none, some (nb + 55)⟩,
   ⟨some 56, (.move (.tmp 8)), 3, some (55, false), some (nb + 56)⟩,
   ⟨some 57, (.binOp .gtr 3 (.tmp 56) (.const (.int .i64 200)) 3), 4, some (55, false), some (nb + 57)⟩,
   ⟨some 58, (.pick (.tmp 55) (.const (.bool true)) (.tmp 57)), 4, none, some (nb + 58)⟩]) (
 .cond (.tmp 58) (
  .seq (
  .ops [⟨some 59, (.call { callee := .value (.func 13), args := #[], argTypes := #[] }), 4, none, some (nb + 59)⟩,
    ⟨some 6, (.assign (.tmp 59)), 4, none, some (nb + 6)⟩]) (
  .ret)) (
  .skip))) (
 .seq (
 .ops [⟨some 60, (.indexAddr 52 (.tmp 5) (.const (.int .i64 0))), 0, none, some (nb + 60)⟩,
   ⟨some 61, (.load 24 (.tmp 60)), 24, none, some (nb + 61)⟩,
   ⟨some 62, (.convert 24 3 (.tmp 61)), 3, none, some (nb + 62)⟩,
   ⟨some 63, (.binOp .rem 3 (.tmp 62) (.const (.int .i64 4000)) 3), 3, none, some (nb + 63)⟩,
   ⟨some 13, (.assign (.tmp 63)), 3, none, some (nb + 13)⟩]) (
 .seq (
 .ops [⟨some 64, (.move (.tmp 13)), 3, none, some (nb + 64)⟩,
   ⟨some 65, (.move (.tmp 13)), 3, none, some (nb + 65)⟩,
   ⟨some 66, (.indexAddr 52 (.tmp 5) (.const (.int .i64 1))), 0, none, some (nb + 66)⟩,
   ⟨some 67, (.load 24 (.tmp 66)), 24, none, some (nb + 67)⟩,
   ⟨some 68, (.convert 24 3 (.tmp 67)), 3, none, some (nb + 68)⟩,
   ⟨some 69, (.binOp .rem 3 (.tmp 68) (.const (.int .i64 600)) 3), 3, none, some (nb + 69)⟩,
   ⟨some 70, (.binOp .add 3 (.tmp 65) (.tmp 69) 3), 3, none, some (nb + 70)⟩,
   ⟨some 71, (.call { callee := .value (.func 6), args := #[(.tmp 64), (.tmp 70)], argTypes := #[3, 3] }), 38, none, some (nb + 71)⟩,
   ⟨some 14, (.alloc 38), 0, none, some (nb + 14)⟩,
   ⟨none, (.store 38 (.tmp 14) (.tmp 71)), 0, none, none⟩]) (
 .seq (
 .ops [⟨some 73, (.load 27 (.tmp 9)), 27, none, some (nb + 73)⟩,
   ⟨some 74, (.move (.tmp 8)), 3, none, some (nb + 74)⟩,
   ⟨some 75, (.load 38 (.tmp 14)), 38, none, some (nb + 75)⟩,
   ⟨some 76, (.build 57 #[(1, (.tmp 74)), (2, (.tmp 75))]), 57, none, some (nb + 76)⟩,
   ⟨some 77, (.buildSlice 58 1 #[(0, (.tmp 76))]), 58, none, some (nb + 77)⟩,
   ⟨some 78, (.call { callee := .value (.func 14), args := #[(.tmp 73), (.tmp 77)], argTypes := #[27, 58] }), 42, none, some (nb + 78)⟩,
   ⟨some 72, (.move (.tmp 78)), 42, none, some (nb + 72)⟩,
   ⟨some 79, (.extract (.tmp 72) 0), 40, none, some (nb + 79)⟩,
   ⟨some 80, (.extract (.tmp 72) 1), 41, none, some (nb + 80)⟩,
   ⟨some 15, (.assign (.tmp 79)), 40, none, some (nb + 15)⟩,
   ⟨some 16, (.assign (.tmp 80)), 41, none, some (nb + 16)⟩]) (
 .seq (
 .ops [⟨some 81, (.fieldAddr 38 (.tmp 14) 1), 0, none, some (nb + 81)⟩,
   ⟨some 82, (.load 3 (.tmp 81)), 3, none, some (nb + 82)⟩,
   ⟨some 83, (.binOp .sub 3 (.const (.int .i64 9000)) (.tmp 82) 3), 3, none, some (nb + 83)⟩,
   ⟨some 84, (.fieldAddr 38 (.tmp 14) 0), 0, none, some (nb + 84)⟩,
   ⟨some 85, (.load 3 (.tmp 84)), 3, none, some (nb + 85)⟩,
   ⟨some 86, (.binOp .sub 3 (.const (.int .i64 9000)) (.tmp 85) 3), 3, none, some (nb + 86)⟩,
   ⟨some 87, (.call { callee := .value (.func 6), args := #[(.tmp 83), (.tmp 86)], argTypes := #[3, 3] }), 38, none, some (nb + 87)⟩,
   ⟨some 88, (.buildSlice 40 1 #[(0, (.tmp 87))]), 40, none, some (nb + 88)⟩,
   ⟨some 17, (.assign (.tmp 88)), 40, none, some (nb + 17)⟩]) (
 .seq (
 .ops [⟨some 90, (.load 34 (.tmp 11)), 34, none, some (nb + 90)⟩,
   ⟨some 91, (.call { callee := .value (.func 11), args := #[(.tmp 90)], argTypes := #[34] }), 34, none, some (nb + 91)⟩,
   ⟨some 92, (.buildSlice 40 0 #[]), 40, none, some (nb + 92)⟩,
   ⟨some 93, (.move (.tmp 17)), 40, none, some (nb + 93)⟩,
   ⟨some 94, (.call { callee := .builtin .append, args := #[(.tmp 92), (.tmp 93)], argTypes := #[40, 40] }), 40, none, some (nb + 94)⟩,
   ⟨some 95, (.call { callee := .value (.func 15), args := #[(.tmp 91), (.tmp 94)], argTypes := #[34, 40] }), 60, none, some (nb + 95)⟩,
   ⟨some 89, (.move (.tmp 95)), 60, none, some (nb + 89)⟩,
   ⟨some 96, (.extract (.tmp 89) 0), 59, none, some (nb + 96)⟩,
   ⟨some 97, (.extract (.tmp 89) 1), 41, none, some (nb + 97)⟩,
   ⟨some 18, (.assign (.tmp 96)), 59, none, some (nb + 18)⟩,
   ⟨some 19, (.assign (.tmp 97)), 41, none, some (nb + 19)⟩]) (
 .seq (
 .ops [⟨some 99, (.load 34 (.tmp 11)), 34, none, some (nb + 99)⟩,
   ⟨some 100, (.call { callee := .value (.func 11), args := #[(.tmp 99)], argTypes := #[34] }), 34, none, some (nb + 100)⟩,
   ⟨some 101, (.move (.tmp 17)), 40, none, some (nb + 101)⟩,
   ⟨some 102, (.call { callee := .value (.func 16), args := #[(.tmp 100), (.tmp 101)], argTypes := #[34, 40] }), 62, none, some (nb + 102)⟩,
   ⟨some 98, (.move (.tmp 102)), 62, none, some (nb + 98)⟩,
   ⟨some 103, (.extract (.tmp 98) 0), 29, none, some (nb + 103)⟩,
   ⟨some 104, (.extract (.tmp 98) 1), 41, none, some (nb + 104)⟩,
   ⟨some 20, (.assign (.tmp 103)), 29, none, some (nb + 20)⟩,
   ⟨some 21, (.assign (.tmp 104)), 41, none, some (nb + 21)⟩]) (
 .seq (
 .seq (
 .ops [⟨some 105, (.move (.tmp 16)), 41, none, some (nb + 105)⟩,
   ⟨some 106, (.move (.tmp 19)), 41, none, some (nb + 106)⟩,
   ⟨some 107, (.binOp .neq 41 (.tmp 105) (.tmp 106) 41), 4, none, some (nb + 107)⟩,
   ⟨some 108, (.move (.tmp 107)), 4, none, some (nb + 108)⟩,
   ⟨some 109, (.move (.tmp 21)), 41, some (108, false), some (nb + 109)⟩,
   ⟨some 110, (.binOp .neq 41 (.tmp 109) (.const (.int .i64 0)) 41), 4, some (108, false), some (nb + 110)⟩,
   ⟨some 111, (.pick (.tmp 108) (.const (.bool true)) (.tmp 110)), 4, none, some (nb + 111)⟩,
   ⟨some 112, (.move (.tmp 111)), 4, none, some (nb + 112)⟩,
   ⟨some 113, (.move (.tmp 20)), 29, some (112, false), some (nb + 113)⟩,
   ⟨some 114, (.call { callee := .builtin .len, args := #[(.tmp 113)], argTypes := #[29] }), 3, some (112, false), some (nb + 114)⟩,
   ⟨some 115, (.binOp .eql 3 (.tmp 114) (.const (.int .i64 0)) 3), 4, some (112, false), some (nb + 115)⟩,
   ⟨some 116, (.move (.tmp 16)), 41, some (112, false), some (nb + 116)⟩,
   ⟨some 117, (.binOp .eql 41 (.tmp 116) (.const (.int .i64 0)) 41), 4, some (112, false), some (nb + 117)⟩,
   ⟨some 118, (.binOp .neq 4 (.tmp 115) (.tmp 117) 4), 4, some (112, false), some (nb + 118)⟩,
   ⟨some 119, (.pick (.tmp 112) (.const (.bool true)) (.tmp 118)), 4, none, some (nb + 119)⟩]) (
 .cond (.tmp 119) (
  .seq (
  .ops [⟨some 6, (.assign (.const (.bool false))), 4, none, some (nb + 6)⟩]) (
  .ret)) (
  .skip))) (
 .seq (
 .seq (
 .ops [⟨some 120, (.move (.tmp 16)), 41, none, some (nb + 120)⟩,
   ⟨some 121, (.binOp .neq 41 (.tmp 120) (.const (.int .i64 0)) 41), 4, none, some (nb + 121)⟩]) (
 .cond (.tmp 121) (
  .seq (
  .ops [⟨some 122, (.move (.tmp 16)), 41, none, some (nb + 122)⟩,
    ⟨some 123, (.binOp .eql 41 (.tmp 122) (.const (.int .i64 9)) 41), 4, none, some (nb + 123)⟩,
    ⟨some 124, (.move (.tmp 123)), 4, none, some (nb + 124)⟩,
    ⟨some 125, (.move (.tmp 15)), 40, some (124, true), some (nb + 125)⟩,
    ⟨some 126, (.call { callee := .builtin .len, args := #[(.tmp 125)], argTypes := #[40] }), 3, some (124, true), some (nb + 126)⟩,
    ⟨some 127, (.move (.tmp 18)), 59, some (124, true), some (nb + 127)⟩,
    ⟨some 128, (.call { callee := .builtin .len, args := #[(.tmp 127)], argTypes := #[59] }), 3, some (124, true), some (nb + 128)⟩,
    ⟨some 129, (.binOp .add 3 (.tmp 126) (.tmp 128) 3), 3, some (124, true), some (nb + 129)⟩,
    ⟨some 130, (.binOp .eql 3 (.tmp 129) (.const (.int .i64 0)) 3), 4, some (124, true), some (nb + 130)⟩,
    ⟨some 131, (.pick (.tmp 124) (.tmp 130) (.const (.bool false))), 4, none, some (nb + 131)⟩,
    ⟨some 132, (.move (.tmp 131)), 4, none, some (nb + 132)⟩,
    ⟨some 133, (.call { callee := .value (.func 13), args := #[], argTypes := #[] }), 4, some (132, true), some (nb + 133)⟩,
    ⟨some 134, (.pick (.tmp 132) (.tmp 133) (.const (.bool false))), 4, none, some (nb + 134)⟩,
    ⟨some 6, (.assign (.tmp 134)), 4, none, some (nb + 6)⟩]) (
  .ret)) (
  .skip))) (
 .seq (
 .ops [⟨some 135, (.move (.tmp 15)), 40, none, some (nb + 135)⟩,
   ⟨some 136, (.call { callee := .builtin .len, args := #[(.tmp 135)], argTypes := #[40] }), 3, none, some (nb + 136)⟩,
   ⟨some 137, (.binOp .eql 3 (.tmp 136) (.const (.int .i64 1)) 3), 4, none, some (nb + 137)⟩,
   ⟨some 138, (.move (.tmp 137)), 4, none, some (nb + 138)⟩,
   ⟨some 139, (.move (.tmp 18)), 59, some (138, true), some (nb + 139)⟩,
   ⟨some 140, (.call { callee := .builtin .len, args := #[(.tmp 139)], argTypes := #[59] }), 3, some (138, true), some (nb + 140)⟩,
   ⟨some 141, (.binOp .eql 3 (.tmp 140) (.const (.int .i64 1)) 3), 4, some (138, true), some (nb + 141)⟩,
   ⟨some 142, (.pick (.tmp 138) (.tmp 141) (.const (.bool false))), 4, none, some (nb + 142)⟩,
   ⟨some 143, (.move (.tmp 142)), 4, none, some (nb + 143)⟩,
   ⟨some 144, (.move (.tmp 18)), 59, some (143, true), some (nb + 144)⟩,
   ⟨some 145, (.indexAddr 59 (.tmp 144) (.const (.int .i64 0))), 0, some (143, true), some (nb + 145)⟩,
   ⟨some 146, (.load 40 (.tmp 145)), 40, some (143, true), some (nb + 146)⟩,
   ⟨some 147, (.call { callee := .builtin .len, args := #[(.tmp 146)], argTypes := #[40] }), 3, some (143, true), some (nb + 147)⟩,
   ⟨some 148, (.binOp .eql 3 (.tmp 147) (.const (.int .i64 1)) 3), 4, some (143, true), some (nb + 148)⟩,
   ⟨some 149, (.pick (.tmp 143) (.tmp 148) (.const (.bool false))), 4, none, some (nb + 149)⟩,
   ⟨some 150, (.move (.tmp 149)), 4, none, some (nb + 150)⟩,
   ⟨some 151, (.move (.tmp 15)), 40, some (150, true), some (nb + 151)⟩,
   ⟨some 152, (.indexAddr 40 (.tmp 151) (.const (.int .i64 0))), 0, some (150, true), some (nb + 152)⟩,
   ⟨some 153, (.load 38 (.tmp 152)), 38, some (150, true), some (nb + 153)⟩,
   ⟨some 154, (.move (.tmp 18)), 59, some (150, true), some (nb + 154)⟩,
   ⟨some 155, (.indexAddr 59 (.tmp 154) (.const (.int .i64 0))), 0, some (150, true), some (nb + 155)⟩,
   ⟨some 156, (.load 40 (.tmp 155)), 40, some (150, true), some (nb + 156)⟩,
   ⟨some 157, (.indexAddr 40 (.tmp 156) (.const (.int .i64 0))), 0, some (150, true), some (nb + 157)⟩,
   ⟨some 158, (.load 38 (.tmp 157)), 38, some (150, true), some (nb + 158)⟩,
   ⟨some 159, (.binOp .eql 38 (.tmp 153) (.tmp 158) 38), 4, some (150, true), some (nb + 159)⟩,
   ⟨some 160, (.pick (.tmp 150) (.tmp 159) (.const (.bool false))), 4, none, some (nb + 160)⟩,
   ⟨some 161, (.move (.tmp 160)), 4, none, some (nb + 161)⟩,
   ⟨some 162, (.call { callee := .value (.func 13), args := #[], argTypes := #[] }), 4, some (161, true), some (nb + 162)⟩,
   ⟨some 163, (.pick (.tmp 161) (.tmp 162) (.const (.bool false))), 4, none, some (nb + 163)⟩,
   ⟨some 6, (.assign (.tmp 163)), 4, none, some (nb + 6)⟩]) (
 .ret))))))))))))))
@[go_sem] theorem rs4 : Go.Proofs.Try.f4.results.toList = [.tmp 6] := by kernel_rfl
theorem en4 : Enters Q 4 := enters_of Go.Proofs.Try.func4 rfl (by kernel_rfl)
theorem k4 (nb : Nat) : sk nb Go.Proofs.Try.f4.ntmps (Go.Proofs.Try.f4.body.getD .skip) = some (c4 nb) := by kernel_rfl
/-- smalto/smaltotop.sloeCoated -/
noncomputable def c5 (nb : Nat) : SC :=
 .seq (
 .ops [⟨some 3, (.box 38 (.tmp 0)), 0, none, some (nb + 3)⟩,
   ⟨some 6, (.alloc 27), 0, none, some (nb + 6)⟩,
   ⟨some 7, (.assign (.const (.slice none 0 0))), 28, none, some (nb + 7)⟩,
   ⟨some 8, (.alloc 34), 0, none, some (nb + 8)⟩]) (
 .seq (
 .opsD [⟨some 14, (.load 38 (.tmp 3)), 38, none, some (nb + 14)⟩,
   ⟨some 15, (.call { callee := .value (.func 6), args := #[(.const (.int .i64 3)), (.const (.int .i64 4))], argTypes := #[3, 3] }), 38, none, some (nb + 15)⟩,
   ⟨some 16, (.buildSlice 40 1 #[(0, (.tmp 15))]), 40, none, some (nb + 16)⟩,
   ⟨some 17, (.call { callee := .value (.func 17), args := #[(.const (.int .i64 3)), (.const (.int .i64 4)), (.tmp 14), (.tmp 16)], argTypes := #[3, 3, 38, 40] }), 27, none, some (nb + 17)⟩,
   ⟨some 9, (.alloc 27), 0, none, some (nb + 9)⟩,
   ⟨none, (.store 27 (.tmp 9) (.tmp 17)), 0, none, none⟩] [(0, 1), (0, 2), (0, 4), (1, 4), (2, 4), (3, 4)]) (
 .seq (
 .ops [⟨some 18, (.move (.tmp 1)), 3, none, some (nb + 18)⟩,
   ⟨some 19, (.buildSlice 29 1 #[(0, (.tmp 18))]), 29, none, some (nb + 19)⟩,
   ⟨some 20, (.load 38 (.tmp 3)), 38, none, some (nb + 20)⟩,
   ⟨some 21, (.buildSlice 40 1 #[(0, (.tmp 20))]), 40, none, some (nb + 21)⟩,
   ⟨some 22, (.build 67 #[(0, (.tmp 21))]), 67, none, some (nb + 22)⟩,
   ⟨some 23, (.buildSlice 31 1 #[(0, (.tmp 22))]), 31, none, some (nb + 23)⟩,
   ⟨some 24, (.build 34 #[(0, (.tmp 19)), (2, (.tmp 23))]), 34, none, some (nb + 24)⟩,
   ⟨some 10, (.alloc 34), 0, none, some (nb + 10)⟩,
   ⟨none, (.store 34 (.tmp 10) (.tmp 24)), 0, none, none⟩]) (
 .seq (
 .ops [⟨some 25, (.buildSlice 28 0 #[]), 28, none, some (nb + 25)⟩,
   ⟨some 11, (.assign (.tmp 25)), 28, none, some (nb + 11)⟩]) (
 .seq (
 .seq (
 .ops [⟨some 12, (.assign (.const (.int .i64 0))), 3, none, some (nb + 12)⟩]) (
 .block 0 (
  .loop (
   .seq (
   .seq (
   .ops [⟨some 26, (.move (.tmp 12)), 3, none, some (nb + 26)⟩,
     ⟨some 27, (.move (.tmp 2)), 23, none, some (nb + 27)⟩,
     ⟨some 28, (.call { callee := .builtin .len, args := #[(.tmp 27)], argTypes := #[23] }), 3, none, some (nb + 28)⟩,
     ⟨some 29, (.binOp .lss 3 (.tmp 26) (.tmp 28) 3), 4, none, some (nb + 29)⟩,
     ⟨some 30, (.move (.tmp 29)), 4, none, some (nb + 30)⟩,
     ⟨some 31, (.move (.tmp 12)), 3, some (30, true), some (nb + 31)⟩,
     ⟨some 32, (.binOp .lss 3 (.tmp 31) (.const (.int .i64 6)) 3), 4, some (30, true), some (nb + 32)⟩,
     ⟨some 33, (.pick (.tmp 30) (.tmp 32) (.const (.bool false))), 4, none, some (nb + 33)⟩]) (
   .cond (.tmp 33) (
    .skip) (
    .exit 0))) (
   .seq (
   .block 1 (
    .seq (
    .ops [⟨some 36, (.move (.tmp 2)), 23, none, some (nb + 36)⟩,
      ⟨some 37, (.move (.tmp 12)), 3, none, some (nb + 37)⟩,
      ⟨some 38, (.indexAddr 23 (.tmp 36) (.tmp 37)), 0, none, some (nb + 38)⟩,
      ⟨some 39, (.load 5 (.tmp 38)), 5, none, some (nb + 39)⟩,
      ⟨some 40, (.convert 5 3 (.tmp 39)), 3, none, some (nb + 40)⟩,
      ⟨some 41, (.binOp .rem 3 (.tmp 40) (.const (.int .i64 100)) 3), 3, none, some (nb + 41)⟩,
      ⟨some 42, (.binOp .add 3 (.const (.int .i64 1)) (.tmp 41) 3), 3, none, some (nb + 42)⟩,
      ⟨some 13, (.assign (.tmp 42)), 3, none, some (nb + 13)⟩]) (
    .seq (
    .ops [⟨some 43, (.move (.tmp 11)), 28, none, some (nb + 43)⟩,
      ⟨some 44, (.move (.tmp 13)), 3, none, some (nb + 44)⟩,
      ⟨some 45, (.buildSlice 29 1 #[(0, (.const (.int .i64 0)))]), 29, none, some (nb + 45)⟩,
      ⟨some 46, (.build 54 #[(0, (.tmp 44)), (1, (.tmp 45))]), 54, none, some (nb + 46)⟩,
      ⟨some 47, (.buildSlice 28 1 #[(0, (.tmp 46))]), 28, none, some (nb + 47)⟩,
      ⟨some 48, (.call { callee := .builtin .append, args := #[(.tmp 43), (.tmp 47)], argTypes := #[28, 28] }), 28, none, some (nb + 48)⟩,
      ⟨some 11, (.assign (.tmp 48)), 28, none, some (nb + 11)⟩]) (
    .ops [⟨some 49, (.fieldAddr 34 (.tmp 10) 3), 0, none, some (nb + 49)⟩,
      ⟨some 50, (.load 32 (.tmp 49)), 32, none, some (nb + 50)⟩,
      ⟨some 51, (.move (.tmp 12)), 3, none, some (nb + 51)⟩,
      ⟨some 52, (.binOp .mul 3 (.const (.int .i64 2)) (.tmp 51) 3), 3, none, some (nb + 52)⟩,
      ⟨some 53, (.move (.tmp 13)), 3, none, some (nb + 53)⟩,
      ⟨some 54, (.build 69 #[(0, (.tmp 52)), (2, (.tmp 53))]), 69, none, some (nb + 54)⟩,
      ⟨some 55, (.buildSlice 32 1 #[(0, (.tmp 54))]), 32, none, some (nb + 55)⟩,
      ⟨some 56, (.call { callee := .builtin .append, args := #[(.tmp 50), (.tmp 55)], argTypes := #[32, 32] }), 32, none, some (nb + 56)⟩,
      ⟨some 57, (.fieldAddr 34 (.tmp 10) 3), 0, none, some (nb + 57)⟩,
      ⟨none, (.store 32 (.tmp 57) (.tmp 56)), 0, none, none⟩])))) (
   .ops [⟨some 34, (.move (.tmp 12)), 3, none, some (nb + 34)⟩,
     ⟨some 35, (.binOp .add 3 (.tmp 34) (.const (.int .i64 1)) 3), 3, none, some (nb + 35)⟩,
     ⟨some 12, (.assign (.tmp 35)), 3, none, some (nb + 12)⟩])))))) (
 .seq (
 .opsD [⟨some 58, (.load 27 (.tmp 9)), 27, none, some (nb + 58)⟩,
   ⟨some 59, (.move (.tmp 11)), 28, none, some (nb + 59)⟩,
   ⟨some 60, (.load 34 (.tmp 10)), 34, none, some (nb + 60)⟩,
   ⟨none, (.store 27 (.tmp 6) (.tmp 58)), 0, none, none⟩,
   ⟨some 7, (.assign (.tmp 59)), 28, none, some (nb + 7)⟩,
   ⟨none, (.store 34 (.tmp 8) (.tmp 60)), 0, none, none⟩] [(2, 3), (2, 4)]) (
 .ret))))))
@[go_sem] theorem rs5 : Go.Proofs.Try.f5.results.toList = [.cell 6 27, .tmp 7, .cell 8 34] := by kernel_rfl
theorem en5 : Enters Q 5 := enters_of Go.Proofs.Try.func5 rfl (by kernel_rfl)
theorem k5 (nb : Nat) : sk nb Go.Proofs.Try.f5.ntmps (Go.Proofs.Try.f5.body.getD .skip) = some (c5 nb) := by kernel_rfl
/-- smalto/smaltotop.sloeSpan -/
noncomputable def c6 (nb : Nat) : SC :=
 .seq (
 .ops [⟨some 4, (.alloc 38), 0, none, some (nb + 4)⟩]) (
 .seq (
 .ops [⟨some 5, (.move (.tmp 0)), 3, none, some (nb + 5)⟩,
   ⟨some 6, (.move (.tmp 1)), 3, none, some (nb + 6)⟩,
   ⟨some 7, (.build 38 #[(0, (.tmp 5)), (1, (.tmp 6))]), 38, none, some (nb + 7)⟩,
   ⟨none, (.store 38 (.tmp 4) (.tmp 7)), 0, none, none⟩]) (
 .ret))
@[go_sem] theorem rs6 : Go.Proofs.Try.f6.results.toList = [.cell 4 38] := by kernel_rfl
theorem en6 : Enters Q 6 := enters_of Go.Proofs.Try.func6 rfl (by kernel_rfl)
theorem k6 (nb : Nat) : sk nb Go.Proofs.Try.f6.ntmps (Go.Proofs.Try.f6.body.getD .skip) = some (c6 nb) := by kernel_rfl
/-- smalto/coat.Uses -/
noncomputable def c7 (nb : Nat) : SC :=
 .seq (
 .ops [⟨some 2, (.box 27 (.tmp 0)), 0, none, some (nb + 2)⟩,
   ⟨some 4, (.assign (.const (.slice none 0 0))), 40, none, some (nb + 4)⟩,
   ⟨some 5, (.assign (.const (.int .i64 0))), 41, none, some (nb + 5)⟩]) (
 .seq (
 .ops [⟨some 15, (.load 27 (.tmp 2)), 27, none, some (nb + 15)⟩,
   ⟨some 16, (.move (.tmp 1)), 28, none, some (nb + 16)⟩,
   ⟨some 17, (.call { callee := .value (.func 18), args := #[(.tmp 15), (.tmp 16)], argTypes := #[27, 28] }), 72, none, some (nb + 17)⟩,
   ⟨some 14, (.move (.tmp 17)), 72, none, some (nb + 14)⟩,
   ⟨some 18, (.extract (.tmp 14) 0), 71, none, some (nb + 18)⟩,
   ⟨some 19, (.extract (.tmp 14) 1), 59, none, some (nb + 19)⟩,
   ⟨some 20, (.extract (.tmp 14) 2), 41, none, some (nb + 20)⟩,
   ⟨some 6, (.alloc 71), 0, none, some (nb + 6)⟩,
   ⟨none, (.store 71 (.tmp 6) (.tmp 18)), 0, none, none⟩,
   ⟨some 7, (.assign (.tmp 19)), 59, none, some (nb + 7)⟩,
   ⟨some 8, (.assign (.tmp 20)), 41, none, some (nb + 8)⟩]) (
 .seq (
 .seq (
 .ops [⟨some 21, (.move (.tmp 8)), 41, none, some (nb + 21)⟩,
   ⟨some 22, (.binOp .neq 41 (.tmp 21) (.const (.int .i64 0)) 41), 4, none, some (nb + 22)⟩]) (
 .cond (.tmp 22) (
  .seq (
  .ops [⟨some 23, (.move (.tmp 8)), 41, none, some (nb + 23)⟩,
    ⟨some 4, (.assign (.const (.slice none 0 0))), 40, none, some (nb + 4)⟩,
    ⟨some 5, (.assign (.tmp 23)), 41, none, some (nb + 5)⟩]) (
  .ret)) (
  .skip))) (
 .seq (
 .ops [⟨some 24, (.fieldAddr 71 (.tmp 6) 0), 0, none, some (nb + 24)⟩,
   ⟨some 25, (.fieldAddr 27 (.tmp 24) 0), 0, none, some (nb + 25)⟩,
   ⟨some 26, (.load 25 (.tmp 25)), 25, none, some (nb + 26)⟩,
   ⟨some 27, (.call { callee := .builtin .len, args := #[(.tmp 26)], argTypes := #[25] }), 3, none, some (nb + 27)⟩,
   ⟨some 28, (.makeSlice 40 (.tmp 27) (.tmp 27)), 40, none, some (nb + 28)⟩,
   ⟨some 9, (.assign (.tmp 28)), 40, none, some (nb + 9)⟩]) (
 .seq (
 .seq (
 .ops [⟨some 29, (.move (.tmp 7)), 59, none, some (nb + 29)⟩,
   ⟨some 30, (.call { callee := .builtin .len, args := #[(.tmp 29)], argTypes := #[59] }), 3, none, some (nb + 30)⟩,
   ⟨some 31, (.move (.const (.int .i64 0))), 3, none, some (nb + 31)⟩]) (
 .block 0 (
  .loop (
   .seq (
   .ops [⟨some 32, (.binOp .lss 3 (.tmp 31) (.tmp 30) 3), 0, none, some (nb + 32)⟩]) (
   .seq (
   .cond (.tmp 32) (
    .skip) (
    .exit 0)) (
   .seq (
   .block 1 (
    .seq (
    .ops [⟨some 33, (.indexAddr 59 (.tmp 29) (.tmp 31)), 0, none, some (nb + 33)⟩,
      ⟨some 34, (.load 40 (.tmp 33)), 40, none, some (nb + 34)⟩,
      ⟨some 11, (.assign (.tmp 34)), 40, none, some (nb + 11)⟩]) (
    .seq (
    .ops [⟨some 35, (.move (.tmp 11)), 40, none, some (nb + 35)⟩,
      ⟨some 36, (.call { callee := .builtin .len, args := #[(.tmp 35)], argTypes := #[40] }), 3, none, some (nb + 36)⟩,
      ⟨some 37, (.move (.const (.int .i64 0))), 3, none, some (nb + 37)⟩]) (
    .block 2 (
     .loop (
      .seq (
      .ops [⟨some 38, (.binOp .lss 3 (.tmp 37) (.tmp 36) 3), 0, none, some (nb + 38)⟩]) (
      .seq (
      .cond (.tmp 38) (
       .skip) (
       .exit 2)) (
      .seq (
      .block 3 (
       .seq (
       .ops [⟨some 39, (.move (.tmp 37)), 3, none, some (nb + 39)⟩,
         ⟨some 40, (.indexAddr 40 (.tmp 35) (.tmp 37)), 0, none, some (nb + 40)⟩,
         ⟨some 41, (.load 38 (.tmp 40)), 38, none, some (nb + 41)⟩,
         ⟨some 13, (.alloc 38), 0, none, some (nb + 13)⟩,
         ⟨some 12, (.assign (.tmp 39)), 3, none, some (nb + 12)⟩,
         ⟨none, (.store 38 (.tmp 13) (.tmp 41)), 0, none, none⟩]) (
       .seq (
       .ops [⟨some 42, (.move (.tmp 9)), 40, none, some (nb + 42)⟩,
         ⟨some 43, (.move (.tmp 12)), 3, none, some (nb + 43)⟩,
         ⟨some 44, (.indexAddr 40 (.tmp 42) (.tmp 43)), 0, none, some (nb + 44)⟩,
         ⟨some 45, (.fieldAddr 38 (.tmp 44) 0), 0, none, some (nb + 45)⟩,
         ⟨some 46, (.load 3 (.tmp 45)), 3, none, some (nb + 46)⟩,
         ⟨some 47, (.fieldAddr 38 (.tmp 13) 0), 0, none, some (nb + 47)⟩,
         ⟨some 48, (.load 3 (.tmp 47)), 3, none, some (nb + 48)⟩,
         ⟨some 49, (.binOp .add 3 (.tmp 46) (.tmp 48) 3), 3, none, some (nb + 49)⟩,
         ⟨some 50, (.indexAddr 40 (.tmp 42) (.tmp 43)), 0, none, some (nb + 50)⟩,
         ⟨some 51, (.fieldAddr 38 (.tmp 50) 0), 0, none, some (nb + 51)⟩,
         ⟨none, (.store 3 (.tmp 51) (.tmp 49)), 0, none, none⟩]) (
       .ops [⟨some 52, (.move (.tmp 9)), 40, none, some (nb + 52)⟩,
         ⟨some 53, (.move (.tmp 12)), 3, none, some (nb + 53)⟩,
         ⟨some 54, (.indexAddr 40 (.tmp 52) (.tmp 53)), 0, none, some (nb + 54)⟩,
         ⟨some 55, (.fieldAddr 38 (.tmp 54) 1), 0, none, some (nb + 55)⟩,
         ⟨some 56, (.load 3 (.tmp 55)), 3, none, some (nb + 56)⟩,
         ⟨some 57, (.fieldAddr 38 (.tmp 13) 1), 0, none, some (nb + 57)⟩,
         ⟨some 58, (.load 3 (.tmp 57)), 3, none, some (nb + 58)⟩,
         ⟨some 59, (.binOp .add 3 (.tmp 56) (.tmp 58) 3), 3, none, some (nb + 59)⟩,
         ⟨some 60, (.indexAddr 40 (.tmp 52) (.tmp 53)), 0, none, some (nb + 60)⟩,
         ⟨some 61, (.fieldAddr 38 (.tmp 60) 1), 0, none, some (nb + 61)⟩,
         ⟨none, (.store 3 (.tmp 61) (.tmp 59)), 0, none, none⟩])))) (
      .ops [⟨some 62, (.binOp .add 3 (.tmp 37) (.const (.int .i64 1)) 3), 3, none, some (nb + 62)⟩,
        ⟨some 37, (.move (.tmp 62)), 3, none, some (nb + 37)⟩]))))))))) (
   .ops [⟨some 63, (.binOp .add 3 (.tmp 31) (.const (.int .i64 1)) 3), 3, none, some (nb + 63)⟩,
     ⟨some 31, (.move (.tmp 63)), 3, none, some (nb + 31)⟩]))))))) (
 .seq (
 .ops [⟨some 64, (.move (.tmp 9)), 40, none, some (nb + 64)⟩,
   ⟨some 4, (.assign (.tmp 64)), 40, none, some (nb + 4)⟩,
   ⟨some 5, (.assign (.const (.int .i64 0))), 41, none, some (nb + 5)⟩]) (
 .ret))))))
@[go_sem] theorem rs7 : Go.Proofs.Try.f7.results.toList = [.tmp 4, .tmp 5] := by kernel_rfl
theorem en7 : Enters Q 7 := enters_of Go.Proofs.Try.func7 rfl (by kernel_rfl)
theorem k7 (nb : Nat) : sk nb Go.Proofs.Try.f7.ntmps (Go.Proofs.Try.f7.body.getD .skip) = some (c7 nb) := by kernel_rfl
/-- smalto/smaltotop.sloeWorks -/
noncomputable def c8 (nb : Nat) : SC :=
 .seq (
 .ops [⟨some 1, (.box 27 (.tmp 0)), 0, none, some (nb + 1)⟩,
   ⟨some 2, (.alloc 27), 0, none, some (nb + 2)⟩]) (
 .seq (
 .ops [⟨some 3, (.buildSlice 25 0 #[]), 25, none, some (nb + 3)⟩,
   ⟨some 4, (.fieldAddr 27 (.tmp 1) 0), 0, none, some (nb + 4)⟩,
   ⟨some 5, (.load 25 (.tmp 4)), 25, none, some (nb + 5)⟩,
   ⟨some 6, (.call { callee := .builtin .append, args := #[(.tmp 3), (.tmp 5)], argTypes := #[25, 25] }), 25, none, some (nb + 6)⟩,
   ⟨some 7, (.fieldAddr 27 (.tmp 1) 0), 0, none, some (nb + 7)⟩,
   ⟨none, (.store 25 (.tmp 7) (.tmp 6)), 0, none, none⟩]) (
 .seq (
 .ops [⟨some 8, (.load 27 (.tmp 1)), 27, none, some (nb + 8)⟩,
   ⟨none, (.store 27 (.tmp 2) (.tmp 8)), 0, none, none⟩]) (
 .ret)))
@[go_sem] theorem rs8 : Go.Proofs.Try.f8.results.toList = [.cell 2 27] := by kernel_rfl
theorem en8 : Enters Q 8 := enters_of Go.Proofs.Try.func8 rfl (by kernel_rfl)
theorem k8 (nb : Nat) : sk nb Go.Proofs.Try.f8.ntmps (Go.Proofs.Try.f8.body.getD .skip) = some (c8 nb) := by kernel_rfl
/-- smalto/coat.Done -/
noncomputable def c9 (nb : Nat) : SC :=
 .seq (
 .ops [⟨some 3, (.box 27 (.tmp 0)), 0, none, some (nb + 3)⟩,
   ⟨some 6, (.assign (.const (.int .i64 0))), 3, none, some (nb + 6)⟩,
   ⟨some 7, (.assign (.const (.int .i64 0))), 3, none, some (nb + 7)⟩,
   ⟨some 8, (.assign (.const (.int .i64 0))), 41, none, some (nb + 8)⟩]) (
 .seq (
 .ops [⟨some 12, (.load 27 (.tmp 3)), 27, none, some (nb + 12)⟩,
   ⟨some 13, (.move (.tmp 1)), 28, none, some (nb + 13)⟩,
   ⟨some 14, (.call { callee := .value (.func 18), args := #[(.tmp 12), (.tmp 13)], argTypes := #[27, 28] }), 72, none, some (nb + 14)⟩,
   ⟨some 11, (.move (.tmp 14)), 72, none, some (nb + 11)⟩,
   ⟨some 15, (.extract (.tmp 11) 0), 71, none, some (nb + 15)⟩,
   ⟨some 16, (.extract (.tmp 11) 1), 59, none, some (nb + 16)⟩,
   ⟨some 17, (.extract (.tmp 11) 2), 41, none, some (nb + 17)⟩,
   ⟨some 9, (.alloc 71), 0, none, some (nb + 9)⟩,
   ⟨none, (.store 71 (.tmp 9) (.tmp 15)), 0, none, none⟩,
   ⟨some 10, (.assign (.tmp 16)), 59, none, some (nb + 10)⟩,
   ⟨some 8, (.assign (.tmp 17)), 41, none, some (nb + 8)⟩]) (
 .seq (
 .block 0 (
  .seq (
  .ops [⟨some 19, (.move (.tmp 8)), 41, none, some (nb + 19)⟩,
    ⟨some 20, (.binOp .neq 41 (.tmp 19) (.const (.int .i64 0)) 41), 4, none, some (nb + 20)⟩,
    ⟨some 18, (.assign (.tmp 20)), 4, none, some (nb + 18)⟩]) (
  .cond (.tmp 18) (
   .seq (
   .ops [⟨some 21, (.move (.tmp 8)), 41, none, some (nb + 21)⟩,
     ⟨some 6, (.assign (.const (.int .i64 0))), 3, none, some (nb + 6)⟩,
     ⟨some 7, (.assign (.const (.int .i64 0))), 3, none, some (nb + 7)⟩,
     ⟨some 8, (.assign (.tmp 21)), 41, none, some (nb + 8)⟩]) (
   .ret)) (
   .seq (
   .seq (
   .ops [⟨some 23, (.move (.tmp 2)), 29, none, some (nb + 23)⟩,
     ⟨some 24, (.call { callee := .builtin .len, args := #[(.tmp 23)], argTypes := #[29] }), 3, none, some (nb + 24)⟩,
     ⟨some 25, (.fieldAddr 71 (.tmp 9) 0), 0, none, some (nb + 25)⟩,
     ⟨some 26, (.fieldAddr 27 (.tmp 25) 0), 0, none, some (nb + 26)⟩,
     ⟨some 27, (.load 25 (.tmp 26)), 25, none, some (nb + 27)⟩,
     ⟨some 28, (.call { callee := .builtin .len, args := #[(.tmp 27)], argTypes := #[25] }), 3, none, some (nb + 28)⟩,
     ⟨some 29, (.binOp .neq 3 (.tmp 24) (.tmp 28) 3), 4, none, some (nb + 29)⟩,
     ⟨some 22, (.assign (.tmp 29)), 4, none, some (nb + 22)⟩]) (
   .cond (.tmp 22) (
    .skip) (
    .ops [⟨some 30, (.move (.tmp 2)), 29, none, some (nb + 30)⟩,
      ⟨some 31, (.call { callee := .value (.func 19), args := #[(.const (.int .i64 0)), (.const (.int .i64 20000)), (.tmp 30)], argTypes := #[3, 3, 29] }), 4, none, some (nb + 31)⟩,
      ⟨some 32, (.unOp .not 4 (.tmp 31)), 4, none, some (nb + 32)⟩,
      ⟨some 22, (.assign (.tmp 32)), 4, none, some (nb + 22)⟩]))) (
   .cond (.tmp 22) (
    .seq (
    .ops [⟨some 6, (.assign (.const (.int .i64 0))), 3, none, some (nb + 6)⟩,
      ⟨some 7, (.assign (.const (.int .i64 0))), 3, none, some (nb + 7)⟩,
      ⟨some 8, (.assign (.const (.int .i64 3))), 41, none, some (nb + 8)⟩]) (
    .ret)) (
    .skip)))))) (
 .seq (
 .ops [⟨some 33, (.move (.tmp 10)), 59, none, some (nb + 33)⟩,
   ⟨some 34, (.move (.tmp 2)), 29, none, some (nb + 34)⟩,
   ⟨some 35, (.call { callee := .value (.func 20), args := #[(.tmp 33), (.tmp 34), (.func 21)], argTypes := #[59, 29, 116] }), 3, none, some (nb + 35)⟩,
   ⟨some 6, (.assign (.tmp 35)), 3, none, some (nb + 6)⟩]) (
 .seq (
 .ops [⟨some 36, (.move (.tmp 10)), 59, none, some (nb + 36)⟩,
   ⟨some 37, (.move (.tmp 2)), 29, none, some (nb + 37)⟩,
   ⟨some 38, (.call { callee := .value (.func 20), args := #[(.tmp 36), (.tmp 37), (.func 22)], argTypes := #[59, 29, 116] }), 3, none, some (nb + 38)⟩,
   ⟨some 7, (.assign (.tmp 38)), 3, none, some (nb + 7)⟩]) (
 .seq (
 .ops [⟨some 39, (.move (.tmp 6)), 3, none, some (nb + 39)⟩,
   ⟨some 40, (.move (.tmp 7)), 3, none, some (nb + 40)⟩,
   ⟨some 6, (.assign (.tmp 39)), 3, none, some (nb + 6)⟩,
   ⟨some 7, (.assign (.tmp 40)), 3, none, some (nb + 7)⟩,
   ⟨some 8, (.assign (.const (.int .i64 0))), 41, none, some (nb + 8)⟩]) (
 .ret))))))
@[go_sem] theorem rs9 : Go.Proofs.Try.f9.results.toList = [.tmp 6, .tmp 7, .tmp 8] := by kernel_rfl
theorem en9 : Enters Q 9 := enters_of Go.Proofs.Try.func9 rfl (by kernel_rfl)
theorem k9 (nb : Nat) : sk nb Go.Proofs.Try.f9.ntmps (Go.Proofs.Try.f9.body.getD .skip) = some (c9 nb) := by kernel_rfl
/-- smalto/ledger.Left -/
noncomputable def c10 (nb : Nat) : SC :=
 .seq (
 .ops [⟨some 1, (.box 34 (.tmp 0)), 0, none, some (nb + 1)⟩,
   ⟨some 2, (.assign (.const (.slice none 0 0))), 40, none, some (nb + 2)⟩,
   ⟨some 3, (.assign (.const (.int .i64 0))), 41, none, some (nb + 3)⟩]) (
 .seq (
 .ops [⟨some 7, (.load 34 (.tmp 1)), 34, none, some (nb + 7)⟩,
   ⟨some 8, (.call { callee := .value (.func 23), args := #[(.tmp 7), (.const (.slice none 0 0))], argTypes := #[34, 59] }), 79, none, some (nb + 8)⟩,
   ⟨some 6, (.move (.tmp 8)), 79, none, some (nb + 6)⟩,
   ⟨some 9, (.extract (.tmp 6) 0), 78, none, some (nb + 9)⟩,
   ⟨some 10, (.extract (.tmp 6) 1), 41, none, some (nb + 10)⟩,
   ⟨some 4, (.alloc 78), 0, none, some (nb + 4)⟩,
   ⟨none, (.store 78 (.tmp 4) (.tmp 9)), 0, none, none⟩,
   ⟨some 3, (.assign (.tmp 10)), 41, none, some (nb + 3)⟩]) (
 .seq (
 .seq (
 .ops [⟨some 11, (.move (.tmp 3)), 41, none, some (nb + 11)⟩,
   ⟨some 12, (.binOp .neq 41 (.tmp 11) (.const (.int .i64 0)) 41), 4, none, some (nb + 12)⟩]) (
 .cond (.tmp 12) (
  .seq (
  .ops [⟨some 13, (.move (.tmp 3)), 41, none, some (nb + 13)⟩,
    ⟨some 2, (.assign (.const (.slice none 0 0))), 40, none, some (nb + 2)⟩,
    ⟨some 3, (.assign (.tmp 13)), 41, none, some (nb + 3)⟩]) (
  .ret)) (
  .skip))) (
 .seq (
 .seq (
 .ops [⟨some 14, (.fieldAddr 78 (.tmp 4) 0), 0, none, some (nb + 14)⟩,
   ⟨some 15, (.fieldAddr 34 (.tmp 14) 0), 0, none, some (nb + 15)⟩,
   ⟨some 16, (.load 29 (.tmp 15)), 29, none, some (nb + 16)⟩,
   ⟨some 17, (.call { callee := .builtin .len, args := #[(.tmp 16)], argTypes := #[29] }), 3, none, some (nb + 17)⟩,
   ⟨some 18, (.move (.const (.int .i64 0))), 3, none, some (nb + 18)⟩]) (
 .block 0 (
  .loop (
   .seq (
   .ops [⟨some 19, (.binOp .lss 3 (.tmp 18) (.tmp 17) 3), 0, none, some (nb + 19)⟩]) (
   .seq (
   .cond (.tmp 19) (
    .skip) (
    .exit 0)) (
   .seq (
   .block 1 (
    .seq (
    .ops [⟨some 20, (.move (.tmp 18)), 3, none, some (nb + 20)⟩,
      ⟨some 5, (.assign (.tmp 20)), 3, none, some (nb + 5)⟩]) (
    .ops [⟨some 21, (.move (.tmp 2)), 40, none, some (nb + 21)⟩,
      ⟨some 22, (.load 78 (.tmp 4)), 78, none, some (nb + 22)⟩,
      ⟨some 23, (.move (.tmp 5)), 3, none, some (nb + 23)⟩,
      ⟨some 24, (.call { callee := .value (.func 24), args := #[(.tmp 22), (.tmp 23)], argTypes := #[78, 3] }), 85, none, some (nb + 24)⟩,
      ⟨some 25, (.call { callee := .value (.func 25), args := #[(.tmp 24)], argTypes := #[85] }), 38, none, some (nb + 25)⟩,
      ⟨some 26, (.buildSlice 40 1 #[(0, (.tmp 25))]), 40, none, some (nb + 26)⟩,
      ⟨some 27, (.call { callee := .builtin .append, args := #[(.tmp 21), (.tmp 26)], argTypes := #[40, 40] }), 40, none, some (nb + 27)⟩,
      ⟨some 2, (.assign (.tmp 27)), 40, none, some (nb + 2)⟩]))) (
   .ops [⟨some 28, (.binOp .add 3 (.tmp 18) (.const (.int .i64 1)) 3), 3, none, some (nb + 28)⟩,
     ⟨some 18, (.move (.tmp 28)), 3, none, some (nb + 18)⟩]))))))) (
 .seq (
 .ops [⟨some 29, (.move (.tmp 2)), 40, none, some (nb + 29)⟩,
   ⟨some 2, (.assign (.tmp 29)), 40, none, some (nb + 2)⟩,
   ⟨some 3, (.assign (.const (.int .i64 0))), 41, none, some (nb + 3)⟩]) (
 .ret)))))
@[go_sem] theorem rs10 : Go.Proofs.Try.f10.results.toList = [.tmp 2, .tmp 3] := by kernel_rfl
theorem en10 : Enters Q 10 := enters_of Go.Proofs.Try.func10 rfl (by kernel_rfl)
theorem k10 (nb : Nat) : sk nb Go.Proofs.Try.f10.ntmps (Go.Proofs.Try.f10.body.getD .skip) = some (c10 nb) := by kernel_rfl
/-- smalto/smaltotop.sloeLedger -/
noncomputable def c11 (nb : Nat) : SC :=
 .seq (
 .ops [⟨some 1, (.box 34 (.tmp 0)), 0, none, some (nb + 1)⟩,
   ⟨some 2, (.alloc 34), 0, none, some (nb + 2)⟩]) (
 .seq (
 .opsD [⟨some 5, (.fieldAddr 34 (.tmp 1) 0), 0, none, some (nb + 5)⟩,
   ⟨some 6, (.load 29 (.tmp 5)), 29, none, some (nb + 6)⟩,
   ⟨some 7, (.call { callee := .value (.func 26), args := #[(.tmp 6)], argTypes := #[29] }), 29, none, some (nb + 7)⟩,
   ⟨some 8, (.buildSlice 30 0 #[]), 30, none, some (nb + 8)⟩,
   ⟨some 9, (.fieldAddr 34 (.tmp 1) 1), 0, none, some (nb + 9)⟩,
   ⟨some 10, (.load 30 (.tmp 9)), 30, none, some (nb + 10)⟩,
   ⟨some 11, (.call { callee := .builtin .append, args := #[(.tmp 8), (.tmp 10)], argTypes := #[30, 30] }), 30, none, some (nb + 11)⟩,
   ⟨some 12, (.buildSlice 32 0 #[]), 32, none, some (nb + 12)⟩,
   ⟨some 13, (.fieldAddr 34 (.tmp 1) 3), 0, none, some (nb + 13)⟩,
   ⟨some 14, (.load 32 (.tmp 13)), 32, none, some (nb + 14)⟩,
   ⟨some 15, (.call { callee := .builtin .append, args := #[(.tmp 12), (.tmp 14)], argTypes := #[32, 32] }), 32, none, some (nb + 15)⟩,
   ⟨some 16, (.build 34 #[(0, (.tmp 7)), (1, (.tmp 11)), (3, (.tmp 15))]), 34, none, some (nb + 16)⟩,
   ⟨some 3, (.alloc 34), 0, none, some (nb + 3)⟩,
   ⟨none, (.store 34 (.tmp 3) (.tmp 16)), 0, none, none⟩] [(1, 3), (2, 3), (2, 5), (3, 5), (1, 7), (2, 7), (3, 7), (5, 7), (6, 7), (2, 9), (3, 9), (6, 9), (7, 9), (1, 12), (2, 12), (3, 12), (5, 12), (6, 12), (7, 12), (9, 12), (10, 12)]) (
 .seq (
 .seq (
 .ops [⟨some 4, (.assign (.const (.int .i64 0))), 3, none, some (nb + 4)⟩]) (
 .block 0 (
  .loop (
   .seq (
   .seq (
   .ops [⟨some 17, (.move (.tmp 4)), 3, none, some (nb + 17)⟩,
     ⟨some 18, (.fieldAddr 34 (.tmp 1) 2), 0, none, some (nb + 18)⟩,
     ⟨some 19, (.load 31 (.tmp 18)), 31, none, some (nb + 19)⟩,
     ⟨some 20, (.call { callee := .builtin .len, args := #[(.tmp 19)], argTypes := #[31] }), 3, none, some (nb + 20)⟩,
     ⟨some 21, (.binOp .lss 3 (.tmp 17) (.tmp 20) 3), 4, none, some (nb + 21)⟩]) (
   .cond (.tmp 21) (
    .skip) (
    .exit 0))) (
   .seq (
   .block 1 (
    .opsD [⟨some 24, (.fieldAddr 34 (.tmp 3) 2), 0, none, some (nb + 24)⟩,
      ⟨some 25, (.load 31 (.tmp 24)), 31, none, some (nb + 25)⟩,
      ⟨some 26, (.buildSlice 40 0 #[]), 40, none, some (nb + 26)⟩,
      ⟨some 27, (.fieldAddr 34 (.tmp 1) 2), 0, none, some (nb + 27)⟩,
      ⟨some 28, (.load 31 (.tmp 27)), 31, none, some (nb + 28)⟩,
      ⟨some 29, (.move (.tmp 4)), 3, none, some (nb + 29)⟩,
      ⟨some 30, (.indexAddr 31 (.tmp 28) (.tmp 29)), 0, none, some (nb + 30)⟩,
      ⟨some 31, (.fieldAddr 67 (.tmp 30) 0), 0, none, some (nb + 31)⟩,
      ⟨some 32, (.load 40 (.tmp 31)), 40, none, some (nb + 32)⟩,
      ⟨some 33, (.call { callee := .builtin .append, args := #[(.tmp 26), (.tmp 32)], argTypes := #[40, 40] }), 40, none, some (nb + 33)⟩,
      ⟨some 34, (.build 67 #[(0, (.tmp 33))]), 67, none, some (nb + 34)⟩,
      ⟨some 35, (.buildSlice 31 1 #[(0, (.tmp 34))]), 31, none, some (nb + 35)⟩,
      ⟨some 36, (.call { callee := .builtin .append, args := #[(.tmp 25), (.tmp 35)], argTypes := #[31, 31] }), 31, none, some (nb + 36)⟩,
      ⟨some 37, (.fieldAddr 34 (.tmp 3) 2), 0, none, some (nb + 37)⟩,
      ⟨none, (.store 31 (.tmp 37) (.tmp 36)), 0, none, none⟩] [(1, 2), (2, 4), (2, 6), (2, 8), (1, 9), (1, 11)])) (
   .ops [⟨some 22, (.move (.tmp 4)), 3, none, some (nb + 22)⟩,
     ⟨some 23, (.binOp .add 3 (.tmp 22) (.const (.int .i64 1)) 3), 3, none, some (nb + 23)⟩,
     ⟨some 4, (.assign (.tmp 23)), 3, none, some (nb + 4)⟩])))))) (
 .seq (
 .ops [⟨some 38, (.load 34 (.tmp 3)), 34, none, some (nb + 38)⟩,
   ⟨none, (.store 34 (.tmp 2) (.tmp 38)), 0, none, none⟩]) (
 .ret))))
@[go_sem] theorem rs11 : Go.Proofs.Try.f11.results.toList = [.cell 2 34] := by kernel_rfl
theorem en11 : Enters Q 11 := enters_of Go.Proofs.Try.func11 rfl (by kernel_rfl)
theorem k11 (nb : Nat) : sk nb Go.Proofs.Try.f11.ntmps (Go.Proofs.Try.f11.body.getD .skip) = some (c11 nb) := by kernel_rfl
/-- smalto/ledger.Low -/
noncomputable def c12 (nb : Nat) : SC :=
 .seq (
 .ops [⟨some 2, (.box 34 (.tmp 0)), 0, none, some (nb + 2)⟩,
   ⟨some 4, (.alloc 3), 0, none, some (nb + 4)⟩,
   ⟨some 5, (.alloc 3), 0, none, some (nb + 5)⟩,
   ⟨some 6, (.assign (.const (.int .i64 0))), 41, none, some (nb + 6)⟩]) (
 .seq (
 .ops [⟨some 11, (.load 34 (.tmp 2)), 34, none, some (nb + 11)⟩,
   ⟨some 12, (.call { callee := .value (.func 23), args := #[(.tmp 11), (.const (.slice none 0 0))], argTypes := #[34, 59] }), 79, none, some (nb + 12)⟩,
   ⟨some 10, (.move (.tmp 12)), 79, none, some (nb + 10)⟩,
   ⟨some 13, (.extract (.tmp 10) 0), 78, none, some (nb + 13)⟩,
   ⟨some 14, (.extract (.tmp 10) 1), 41, none, some (nb + 14)⟩,
   ⟨some 7, (.alloc 78), 0, none, some (nb + 7)⟩,
   ⟨none, (.store 78 (.tmp 7) (.tmp 13)), 0, none, none⟩,
   ⟨some 6, (.assign (.tmp 14)), 41, none, some (nb + 6)⟩]) (
 .seq (
 .block 0 (
  .seq (
  .ops [⟨some 16, (.move (.tmp 6)), 41, none, some (nb + 16)⟩,
    ⟨some 17, (.binOp .neq 41 (.tmp 16) (.const (.int .i64 0)) 41), 4, none, some (nb + 17)⟩,
    ⟨some 15, (.assign (.tmp 17)), 4, none, some (nb + 15)⟩]) (
  .cond (.tmp 15) (
   .seq (
   .ops [⟨some 18, (.move (.tmp 6)), 41, none, some (nb + 18)⟩,
     ⟨none, (.store 3 (.tmp 4) (.const (.int .i64 0))), 0, none, none⟩,
     ⟨none, (.store 3 (.tmp 5) (.const (.int .i64 0))), 0, none, none⟩,
     ⟨some 6, (.assign (.tmp 18)), 41, none, some (nb + 6)⟩]) (
   .ret)) (
   .seq (
   .ops [⟨some 20, (.fieldAddr 78 (.tmp 7) 0), 0, none, some (nb + 20)⟩,
     ⟨some 21, (.fieldAddr 34 (.tmp 20) 0), 0, none, some (nb + 21)⟩,
     ⟨some 22, (.load 29 (.tmp 21)), 29, none, some (nb + 22)⟩,
     ⟨some 23, (.call { callee := .builtin .len, args := #[(.tmp 22)], argTypes := #[29] }), 3, none, some (nb + 23)⟩,
     ⟨some 24, (.binOp .sub 3 (.tmp 23) (.const (.int .i64 1)) 3), 3, none, some (nb + 24)⟩,
     ⟨some 25, (.move (.tmp 1)), 3, none, some (nb + 25)⟩,
     ⟨some 26, (.buildSlice 29 1 #[(0, (.tmp 25))]), 29, none, some (nb + 26)⟩,
     ⟨some 27, (.call { callee := .value (.func 27), args := #[(.const (.int .i64 0)), (.tmp 24), (.tmp 26)], argTypes := #[3, 3, 29] }), 4, none, some (nb + 27)⟩,
     ⟨some 28, (.unOp .not 4 (.tmp 27)), 4, none, some (nb + 28)⟩,
     ⟨some 19, (.assign (.tmp 28)), 4, none, some (nb + 19)⟩]) (
   .cond (.tmp 19) (
    .seq (
    .ops [⟨none, (.store 3 (.tmp 4) (.const (.int .i64 0))), 0, none, none⟩,
      ⟨none, (.store 3 (.tmp 5) (.const (.int .i64 0))), 0, none, none⟩,
      ⟨some 6, (.assign (.const (.int .i64 7))), 41, none, some (nb + 6)⟩]) (
    .ret)) (
    .skip)))))) (
 .seq (
 .ops [⟨none, (.store 3 (.tmp 4) (.const (.int .i64 (-1)))), 0, none, none⟩,
   ⟨none, (.store 3 (.tmp 5) (.const (.int .i64 (-1)))), 0, none, none⟩]) (
 .seq (
 .seq (
 .ops [⟨some 29, (.load 78 (.tmp 7)), 78, none, some (nb + 29)⟩,
   ⟨some 30, (.move (.tmp 1)), 3, none, some (nb + 30)⟩,
   ⟨some 31, (.call { callee := .value (.func 28), args := #[(.tmp 29), (.tmp 30)], argTypes := #[78, 3] }), 89, none, some (nb + 31)⟩]) (
 .block 1 (
  .rangeF (.tmp 31) [32, 33] (
   .seq (
   .ops [⟨some 8, (.assign (.tmp 32)), 3, none, some (nb + 8)⟩]) (
   .ops [⟨some 9, (.alloc 38), 0, none, some (nb + 9)⟩,
     ⟨none, (.store 38 (.tmp 9) (.tmp 33)), 0, none, none⟩])) (
   .block 2 (
    .seq (
    .seq (
    .ops [⟨some 34, (.fieldAddr 38 (.tmp 9) 0), 0, none, some (nb + 34)⟩,
      ⟨some 35, (.load 3 (.tmp 34)), 3, none, some (nb + 35)⟩,
      ⟨some 36, (.binOp .lss 3 (.tmp 35) (.const (.int .i64 0)) 3), 4, none, some (nb + 36)⟩,
      ⟨some 37, (.move (.tmp 36)), 4, none, some (nb + 37)⟩,
      ⟨some 38, (.load 3 (.tmp 5)), 3, some (37, true), some (nb + 38)⟩,
      ⟨some 39, (.binOp .eql 3 (.tmp 38) (.const (.int .i64 (-1))) 3), 4, some (37, true), some (nb + 39)⟩,
      ⟨some 40, (.pick (.tmp 37) (.tmp 39) (.const (.bool false))), 4, none, some (nb + 40)⟩]) (
    .cond (.tmp 40) (
     .ops [⟨some 41, (.move (.tmp 8)), 3, none, some (nb + 41)⟩,
       ⟨none, (.store 3 (.tmp 5) (.tmp 41)), 0, none, none⟩]) (
     .skip))) (
    .seq (
    .ops [⟨some 42, (.fieldAddr 38 (.tmp 9) 1), 0, none, some (nb + 42)⟩,
      ⟨some 43, (.load 3 (.tmp 42)), 3, none, some (nb + 43)⟩,
      ⟨some 44, (.binOp .lss 3 (.tmp 43) (.const (.int .i64 0)) 3), 4, none, some (nb + 44)⟩]) (
    .cond (.tmp 44) (
     .seq (
     .ops [⟨some 45, (.move (.tmp 8)), 3, none, some (nb + 45)⟩,
       ⟨none, (.store 3 (.tmp 4) (.tmp 45)), 0, none, none⟩]) (
     .exit 1)) (
     .skip)))))))) (
 .seq (
 .opsD [⟨some 46, (.load 3 (.tmp 4)), 3, none, some (nb + 46)⟩,
   ⟨some 47, (.load 3 (.tmp 5)), 3, none, some (nb + 47)⟩,
   ⟨none, (.store 3 (.tmp 4) (.tmp 46)), 0, none, none⟩,
   ⟨none, (.store 3 (.tmp 5) (.tmp 47)), 0, none, none⟩,
   ⟨some 6, (.assign (.const (.int .i64 0))), 41, none, some (nb + 6)⟩] [(1, 2)]) (
 .ret))))))
@[go_sem] theorem rs12 : Go.Proofs.Try.f12.results.toList = [.cell 4 3, .cell 5 3, .tmp 6] := by kernel_rfl
theorem en12 : Enters Q 12 := enters_of Go.Proofs.Try.func12 rfl (by kernel_rfl)
theorem k12 (nb : Nat) : sk nb Go.Proofs.Try.f12.ntmps (Go.Proofs.Try.f12.body.getD .skip) = some (c12 nb) := by kernel_rfl
/-- smalto/smaltotop.sloeKnown12 -/
noncomputable def c13 (nb : Nat) : SC :=
 .seq (
 .ops [⟨some 0, (.assign (.const (.bool false))), 4, none, some (nb + 0)⟩]) (
 .seq (
 .ops [⟨some 6, (.buildSlice 29 1 #[(0, (.const (.int .i64 100)))]), 29, none, some (nb + 6)⟩,
   ⟨some 7, (.build 92 #[(0, (.const (.int .i64 3))), (2, (.const (.int .i64 40)))]), 92, none, some (nb + 7)⟩,
   ⟨some 8, (.build 92 #[(0, (.const (.int .i64 8))), (2, (.const (.int .i64 (-20))))]), 92, none, some (nb + 8)⟩,
   ⟨some 9, (.buildSlice 30 2 #[(0, (.tmp 7)), (1, (.tmp 8))]), 30, none, some (nb + 9)⟩,
   ⟨some 10, (.call { callee := .value (.func 6), args := #[(.const (.int .i64 2)), (.const (.int .i64 3))], argTypes := #[3, 3] }), 38, none, some (nb + 10)⟩,
   ⟨some 11, (.buildSlice 40 1 #[(0, (.tmp 10))]), 40, none, some (nb + 11)⟩,
   ⟨some 12, (.build 67 #[(0, (.tmp 11))]), 67, none, some (nb + 12)⟩,
   ⟨some 13, (.buildSlice 31 1 #[(0, (.tmp 12))]), 31, none, some (nb + 13)⟩,
   ⟨some 14, (.build 69 #[(0, (.const (.int .i64 4))), (2, (.const (.int .i64 10)))]), 69, none, some (nb + 14)⟩,
   ⟨some 15, (.buildSlice 32 1 #[(0, (.tmp 14))]), 32, none, some (nb + 15)⟩,
   ⟨some 16, (.build 34 #[(0, (.tmp 6)), (1, (.tmp 9)), (2, (.tmp 13)), (3, (.tmp 15))]), 34, none, some (nb + 16)⟩,
   ⟨some 1, (.alloc 34), 0, none, some (nb + 1)⟩,
   ⟨none, (.store 34 (.tmp 1) (.tmp 16)), 0, none, none⟩]) (
 .seq (
 .ops [⟨some 18, (.load 34 (.tmp 1)), 34, none, some (nb + 18)⟩,
   ⟨some 19, (.call { callee := .value (.func 10), args := #[(.tmp 18)], argTypes := #[34] }), 42, none, some (nb + 19)⟩,
   ⟨some 17, (.move (.tmp 19)), 42, none, some (nb + 17)⟩,
   ⟨some 20, (.extract (.tmp 17) 0), 40, none, some (nb + 20)⟩,
   ⟨some 21, (.extract (.tmp 17) 1), 41, none, some (nb + 21)⟩,
   ⟨some 2, (.assign (.tmp 20)), 40, none, some (nb + 2)⟩,
   ⟨some 3, (.assign (.tmp 21)), 41, none, some (nb + 3)⟩]) (
 .seq (
 .ops [⟨some 23, (.buildSlice 29 3 #[(0, (.const (.int .i64 1))), (1, (.const (.int .i64 2))), (2, (.const (.int .i64 4)))]), 29, none, some (nb + 23)⟩,
   ⟨some 24, (.call { callee := .value (.func 29), args := #[(.const (.int .i64 10)), (.tmp 23)], argTypes := #[3, 29] }), 62, none, some (nb + 24)⟩,
   ⟨some 22, (.move (.tmp 24)), 62, none, some (nb + 22)⟩,
   ⟨some 25, (.extract (.tmp 22) 0), 29, none, some (nb + 25)⟩,
   ⟨some 26, (.extract (.tmp 22) 1), 41, none, some (nb + 26)⟩,
   ⟨some 4, (.assign (.tmp 25)), 29, none, some (nb + 4)⟩,
   ⟨some 5, (.assign (.tmp 26)), 41, none, some (nb + 5)⟩]) (
 .seq (
 .opsD [⟨some 27, (.move (.tmp 3)), 41, none, some (nb + 27)⟩,
   ⟨some 28, (.binOp .eql 41 (.tmp 27) (.const (.int .i64 0)) 41), 4, none, some (nb + 28)⟩,
   ⟨some 29, (.move (.tmp 28)), 4, none, some (nb + 29)⟩,
   ⟨some 30, (.move (.tmp 2)), 40, some (29, true), some (nb + 30)⟩,
   ⟨some 31, (.call { callee := .builtin .len, args := #[(.tmp 30)], argTypes := #[40] }), 3, some (29, true), some (nb + 31)⟩,
   ⟨some 32, (.binOp .eql 3 (.tmp 31) (.const (.int .i64 1)) 3), 4, some (29, true), some (nb + 32)⟩,
   ⟨some 33, (.pick (.tmp 29) (.tmp 32) (.const (.bool false))), 4, none, some (nb + 33)⟩,
   ⟨some 34, (.move (.tmp 33)), 4, none, some (nb + 34)⟩,
   ⟨some 35, (.move (.tmp 2)), 40, some (34, true), some (nb + 35)⟩,
   ⟨some 36, (.indexAddr 40 (.tmp 35) (.const (.int .i64 0))), 0, some (34, true), some (nb + 36)⟩,
   ⟨some 37, (.load 38 (.tmp 36)), 38, some (34, true), some (nb + 37)⟩,
   ⟨some 38, (.call { callee := .value (.func 6), args := #[(.const (.int .i64 90)), (.const (.int .i64 100))], argTypes := #[3, 3] }), 38, some (34, true), some (nb + 38)⟩,
   ⟨some 39, (.binOp .eql 38 (.tmp 37) (.tmp 38) 38), 4, some (34, true), some (nb + 39)⟩,
   ⟨some 40, (.pick (.tmp 34) (.tmp 39) (.const (.bool false))), 4, none, some (nb + 40)⟩,
   ⟨some 41, (.move (.tmp 40)), 4, none, some (nb + 41)⟩,
   ⟨some 42, (.move (.tmp 5)), 41, some (41, true), some (nb + 42)⟩,
   ⟨some 43, (.binOp .eql 41 (.tmp 42) (.const (.int .i64 0)) 41), 4, some (41, true), some (nb + 43)⟩,
   ⟨some 44, (.pick (.tmp 41) (.tmp 43) (.const (.bool false))), 4, none, some (nb + 44)⟩,
   ⟨some 45, (.move (.tmp 44)), 4, none, some (nb + 45)⟩,
   ⟨some 46, (.move (.tmp 4)), 29, some (45, true), some (nb + 46)⟩,
   ⟨some 47, (.buildSlice 29 3 #[(0, (.const (.int .i64 1))), (1, (.const (.int .i64 3))), (2, (.const (.int .i64 6)))]), 29, some (45, true), some (nb + 47)⟩,
   ⟨some 48, (.call { callee := .value (.func 30), args := #[(.tmp 46), (.tmp 47)], argTypes := #[29, 29] }), 4, some (45, true), some (nb + 48)⟩,
   ⟨some 49, (.pick (.tmp 45) (.tmp 48) (.const (.bool false))), 4, none, some (nb + 49)⟩,
   ⟨some 0, (.assign (.tmp 49)), 4, none, some (nb + 0)⟩] [(9, 11), (10, 11)]) (
 .ret)))))
@[go_sem] theorem rs13 : Go.Proofs.Try.f13.results.toList = [.tmp 0] := by kernel_rfl
theorem en13 : Enters Q 13 := enters_of Go.Proofs.Try.func13 rfl (by kernel_rfl)
theorem k13 (nb : Nat) : sk nb Go.Proofs.Try.f13.ntmps (Go.Proofs.Try.f13.body.getD .skip) = some (c13 nb) := by kernel_rfl
/-- smalto/coat.Told -/
noncomputable def c14 (nb : Nat) : SC :=
 .seq (
 .ops [⟨some 2, (.box 27 (.tmp 0)), 0, none, some (nb + 2)⟩,
   ⟨some 4, (.assign (.const (.slice none 0 0))), 40, none, some (nb + 4)⟩,
   ⟨some 5, (.assign (.const (.int .i64 0))), 41, none, some (nb + 5)⟩]) (
 .seq (
 .ops [⟨some 11, (.load 27 (.tmp 2)), 27, none, some (nb + 11)⟩,
   ⟨some 12, (.move (.tmp 1)), 58, none, some (nb + 12)⟩,
   ⟨some 13, (.call { callee := .value (.func 31), args := #[(.tmp 11), (.tmp 12)], argTypes := #[27, 58] }), 97, none, some (nb + 13)⟩,
   ⟨some 10, (.move (.tmp 13)), 97, none, some (nb + 10)⟩,
   ⟨some 14, (.extract (.tmp 10) 0), 96, none, some (nb + 14)⟩,
   ⟨some 15, (.extract (.tmp 10) 1), 41, none, some (nb + 15)⟩,
   ⟨some 6, (.alloc 96), 0, none, some (nb + 6)⟩,
   ⟨none, (.store 96 (.tmp 6) (.tmp 14)), 0, none, none⟩,
   ⟨some 7, (.assign (.tmp 15)), 41, none, some (nb + 7)⟩]) (
 .seq (
 .seq (
 .ops [⟨some 16, (.move (.tmp 7)), 41, none, some (nb + 16)⟩,
   ⟨some 17, (.binOp .neq 41 (.tmp 16) (.const (.int .i64 0)) 41), 4, none, some (nb + 17)⟩]) (
 .cond (.tmp 17) (
  .seq (
  .ops [⟨some 18, (.move (.tmp 7)), 41, none, some (nb + 18)⟩,
    ⟨some 4, (.assign (.const (.slice none 0 0))), 40, none, some (nb + 4)⟩,
    ⟨some 5, (.assign (.tmp 18)), 41, none, some (nb + 5)⟩]) (
  .ret)) (
  .skip))) (
 .seq (
 .ops [⟨some 20, (.load 96 (.tmp 6)), 96, none, some (nb + 20)⟩,
   ⟨some 21, (.call { callee := .value (.func 32), args := #[(.tmp 20)], argTypes := #[96] }), 99, none, some (nb + 21)⟩,
   ⟨some 19, (.move (.tmp 21)), 99, none, some (nb + 19)⟩,
   ⟨some 22, (.extract (.tmp 19) 0), 40, none, some (nb + 22)⟩,
   ⟨some 23, (.extract (.tmp 19) 1), 4, none, some (nb + 23)⟩,
   ⟨some 8, (.assign (.tmp 22)), 40, none, some (nb + 8)⟩,
   ⟨some 9, (.assign (.tmp 23)), 4, none, some (nb + 9)⟩]) (
 .seq (
 .seq (
 .ops [⟨some 24, (.move (.tmp 9)), 4, none, some (nb + 24)⟩,
   ⟨some 25, (.unOp .not 4 (.tmp 24)), 4, none, some (nb + 25)⟩]) (
 .cond (.tmp 25) (
  .seq (
  .ops [⟨some 4, (.assign (.const (.slice none 0 0))), 40, none, some (nb + 4)⟩,
    ⟨some 5, (.assign (.const (.int .i64 9))), 41, none, some (nb + 5)⟩]) (
  .ret)) (
  .skip))) (
 .seq (
 .ops [⟨some 26, (.move (.tmp 8)), 40, none, some (nb + 26)⟩,
   ⟨some 4, (.assign (.tmp 26)), 40, none, some (nb + 4)⟩,
   ⟨some 5, (.assign (.const (.int .i64 0))), 41, none, some (nb + 5)⟩]) (
 .ret))))))
@[go_sem] theorem rs14 : Go.Proofs.Try.f14.results.toList = [.tmp 4, .tmp 5] := by kernel_rfl
theorem en14 : Enters Q 14 := enters_of Go.Proofs.Try.func14 rfl (by kernel_rfl)
theorem k14 (nb : Nat) : sk nb Go.Proofs.Try.f14.ntmps (Go.Proofs.Try.f14.body.getD .skip) = some (c14 nb) := by kernel_rfl
/-- smalto/ledger.Told -/
noncomputable def c15 (nb : Nat) : SC :=
 .seq (
 .ops [⟨some 2, (.box 34 (.tmp 0)), 0, none, some (nb + 2)⟩,
   ⟨some 4, (.assign (.const (.slice none 0 0))), 59, none, some (nb + 4)⟩,
   ⟨some 5, (.assign (.const (.int .i64 0))), 41, none, some (nb + 5)⟩]) (
 .seq (
 .ops [⟨some 15, (.load 34 (.tmp 2)), 34, none, some (nb + 15)⟩,
   ⟨some 16, (.move (.tmp 1)), 40, none, some (nb + 16)⟩,
   ⟨some 17, (.buildSlice 59 1 #[(0, (.tmp 16))]), 59, none, some (nb + 17)⟩,
   ⟨some 18, (.call { callee := .value (.func 23), args := #[(.tmp 15), (.tmp 17)], argTypes := #[34, 59] }), 79, none, some (nb + 18)⟩,
   ⟨some 14, (.move (.tmp 18)), 79, none, some (nb + 14)⟩,
   ⟨some 19, (.extract (.tmp 14) 0), 78, none, some (nb + 19)⟩,
   ⟨some 20, (.extract (.tmp 14) 1), 41, none, some (nb + 20)⟩,
   ⟨some 6, (.alloc 78), 0, none, some (nb + 6)⟩,
   ⟨none, (.store 78 (.tmp 6) (.tmp 19)), 0, none, none⟩,
   ⟨some 7, (.assign (.tmp 20)), 41, none, some (nb + 7)⟩]) (
 .seq (
 .seq (
 .ops [⟨some 21, (.move (.tmp 7)), 41, none, some (nb + 21)⟩,
   ⟨some 22, (.binOp .neq 41 (.tmp 21) (.const (.int .i64 0)) 41), 4, none, some (nb + 22)⟩]) (
 .cond (.tmp 22) (
  .seq (
  .ops [⟨some 23, (.move (.tmp 7)), 41, none, some (nb + 23)⟩,
    ⟨some 4, (.assign (.const (.slice none 0 0))), 59, none, some (nb + 4)⟩,
    ⟨some 5, (.assign (.tmp 23)), 41, none, some (nb + 5)⟩]) (
  .ret)) (
  .skip))) (
 .seq (
 .ops [⟨some 24, (.fieldAddr 78 (.tmp 6) 0), 0, none, some (nb + 24)⟩,
   ⟨some 25, (.fieldAddr 34 (.tmp 24) 2), 0, none, some (nb + 25)⟩,
   ⟨some 26, (.load 31 (.tmp 25)), 31, none, some (nb + 26)⟩,
   ⟨some 27, (.call { callee := .builtin .len, args := #[(.tmp 26)], argTypes := #[31] }), 3, none, some (nb + 27)⟩,
   ⟨some 28, (.makeSlice 59 (.tmp 27) (.tmp 27)), 59, none, some (nb + 28)⟩,
   ⟨some 8, (.assign (.tmp 28)), 59, none, some (nb + 8)⟩]) (
 .seq (
 .seq (
 .ops [⟨some 29, (.move (.tmp 1)), 40, none, some (nb + 29)⟩,
   ⟨some 30, (.call { callee := .builtin .len, args := #[(.tmp 29)], argTypes := #[40] }), 3, none, some (nb + 30)⟩,
   ⟨some 31, (.move (.const (.int .i64 0))), 3, none, some (nb + 31)⟩]) (
 .block 0 (
  .loop (
   .seq (
   .ops [⟨some 32, (.binOp .lss 3 (.tmp 31) (.tmp 30) 3), 0, none, some (nb + 32)⟩]) (
   .seq (
   .cond (.tmp 32) (
    .skip) (
    .exit 0)) (
   .seq (
   .block 1 (
    .seq (
    .ops [⟨some 33, (.move (.tmp 31)), 3, none, some (nb + 33)⟩,
      ⟨some 34, (.indexAddr 40 (.tmp 29) (.tmp 31)), 0, none, some (nb + 34)⟩,
      ⟨some 35, (.load 38 (.tmp 34)), 38, none, some (nb + 35)⟩,
      ⟨some 10, (.alloc 38), 0, none, some (nb + 10)⟩,
      ⟨some 9, (.assign (.tmp 33)), 3, none, some (nb + 9)⟩,
      ⟨none, (.store 38 (.tmp 10) (.tmp 35)), 0, none, none⟩]) (
    .seq (
    .ops [⟨some 37, (.load 78 (.tmp 6)), 78, none, some (nb + 37)⟩,
      ⟨some 38, (.move (.tmp 9)), 3, none, some (nb + 38)⟩,
      ⟨some 39, (.load 38 (.tmp 10)), 38, none, some (nb + 39)⟩,
      ⟨some 40, (.call { callee := .value (.func 33), args := #[(.tmp 37), (.tmp 38), (.tmp 39)], argTypes := #[78, 3, 38] }), 101, none, some (nb + 40)⟩,
      ⟨some 36, (.move (.tmp 40)), 101, none, some (nb + 36)⟩,
      ⟨some 41, (.extract (.tmp 36) 0), 83, none, some (nb + 41)⟩,
      ⟨some 42, (.extract (.tmp 36) 1), 4, none, some (nb + 42)⟩,
      ⟨some 11, (.alloc 83), 0, none, some (nb + 11)⟩,
      ⟨none, (.store 83 (.tmp 11) (.tmp 41)), 0, none, none⟩,
      ⟨some 12, (.assign (.tmp 42)), 4, none, some (nb + 12)⟩]) (
    .seq (
    .seq (
    .ops [⟨some 43, (.move (.tmp 12)), 4, none, some (nb + 43)⟩,
      ⟨some 44, (.unOp .not 4 (.tmp 43)), 4, none, some (nb + 44)⟩]) (
    .cond (.tmp 44) (
     .seq (
     .ops [⟨some 4, (.assign (.const (.slice none 0 0))), 59, none, some (nb + 4)⟩,
       ⟨some 5, (.assign (.const (.int .i64 9))), 41, none, some (nb + 5)⟩]) (
     .ret)) (
     .skip))) (
    .seq (
    .ops [⟨some 45, (.move (.tmp 8)), 59, none, some (nb + 45)⟩,
      ⟨some 46, (.call { callee := .builtin .len, args := #[(.tmp 45)], argTypes := #[59] }), 3, none, some (nb + 46)⟩,
      ⟨some 47, (.move (.const (.int .i64 0))), 3, none, some (nb + 47)⟩]) (
    .block 2 (
     .loop (
      .seq (
      .ops [⟨some 48, (.binOp .lss 3 (.tmp 47) (.tmp 46) 3), 0, none, some (nb + 48)⟩]) (
      .seq (
      .cond (.tmp 48) (
       .skip) (
       .exit 2)) (
      .seq (
      .block 3 (
       .seq (
       .ops [⟨some 49, (.move (.tmp 47)), 3, none, some (nb + 49)⟩,
         ⟨some 13, (.assign (.tmp 49)), 3, none, some (nb + 13)⟩]) (
       .opsD [⟨some 50, (.move (.tmp 8)), 59, none, some (nb + 50)⟩,
         ⟨some 51, (.move (.tmp 13)), 3, none, some (nb + 51)⟩,
         ⟨some 52, (.move (.tmp 8)), 59, none, some (nb + 52)⟩,
         ⟨some 53, (.move (.tmp 13)), 3, none, some (nb + 53)⟩,
         ⟨some 54, (.indexAddr 59 (.tmp 52) (.tmp 53)), 0, none, some (nb + 54)⟩,
         ⟨some 55, (.load 40 (.tmp 54)), 40, none, some (nb + 55)⟩,
         ⟨some 56, (.move (.tmp 13)), 3, none, some (nb + 56)⟩,
         ⟨some 57, (.indexAddr 83 (.tmp 11) (.tmp 56)), 0, none, some (nb + 57)⟩,
         ⟨some 58, (.load 38 (.tmp 57)), 38, none, some (nb + 58)⟩,
         ⟨some 59, (.buildSlice 40 1 #[(0, (.tmp 58))]), 40, none, some (nb + 59)⟩,
         ⟨some 60, (.call { callee := .builtin .append, args := #[(.tmp 55), (.tmp 59)], argTypes := #[40, 40] }), 40, none, some (nb + 60)⟩,
         ⟨some 61, (.indexAddr 59 (.tmp 50) (.tmp 51)), 0, none, some (nb + 61)⟩,
         ⟨none, (.store 40 (.tmp 61) (.tmp 60)), 0, none, none⟩] [(4, 9), (5, 9)]))) (
      .ops [⟨some 62, (.binOp .add 3 (.tmp 47) (.const (.int .i64 1)) 3), 3, none, some (nb + 62)⟩,
        ⟨some 47, (.move (.tmp 62)), 3, none, some (nb + 47)⟩]))))))))))) (
   .ops [⟨some 63, (.binOp .add 3 (.tmp 31) (.const (.int .i64 1)) 3), 3, none, some (nb + 63)⟩,
     ⟨some 31, (.move (.tmp 63)), 3, none, some (nb + 31)⟩]))))))) (
 .seq (
 .ops [⟨some 64, (.move (.tmp 8)), 59, none, some (nb + 64)⟩,
   ⟨some 4, (.assign (.tmp 64)), 59, none, some (nb + 4)⟩,
   ⟨some 5, (.assign (.const (.int .i64 0))), 41, none, some (nb + 5)⟩]) (
 .ret))))))
@[go_sem] theorem rs15 : Go.Proofs.Try.f15.results.toList = [.tmp 4, .tmp 5] := by kernel_rfl
theorem en15 : Enters Q 15 := enters_of Go.Proofs.Try.func15 rfl (by kernel_rfl)
theorem k15 (nb : Nat) : sk nb Go.Proofs.Try.f15.ntmps (Go.Proofs.Try.f15.body.getD .skip) = some (c15 nb) := by kernel_rfl
/-- smalto/ledger.Odd -/
noncomputable def c16 (nb : Nat) : SC :=
 .seq (
 .ops [⟨some 2, (.box 34 (.tmp 0)), 0, none, some (nb + 2)⟩,
   ⟨some 4, (.assign (.const (.slice none 0 0))), 29, none, some (nb + 4)⟩,
   ⟨some 5, (.assign (.const (.int .i64 0))), 41, none, some (nb + 5)⟩]) (
 .seq (
 .ops [⟨some 9, (.load 34 (.tmp 2)), 34, none, some (nb + 9)⟩,
   ⟨some 10, (.move (.tmp 1)), 40, none, some (nb + 10)⟩,
   ⟨some 11, (.buildSlice 59 1 #[(0, (.tmp 10))]), 59, none, some (nb + 11)⟩,
   ⟨some 12, (.call { callee := .value (.func 23), args := #[(.tmp 9), (.tmp 11)], argTypes := #[34, 59] }), 79, none, some (nb + 12)⟩,
   ⟨some 8, (.move (.tmp 12)), 79, none, some (nb + 8)⟩,
   ⟨some 13, (.extract (.tmp 8) 0), 78, none, some (nb + 13)⟩,
   ⟨some 14, (.extract (.tmp 8) 1), 41, none, some (nb + 14)⟩,
   ⟨some 6, (.alloc 78), 0, none, some (nb + 6)⟩,
   ⟨none, (.store 78 (.tmp 6) (.tmp 13)), 0, none, none⟩,
   ⟨some 7, (.assign (.tmp 14)), 41, none, some (nb + 7)⟩]) (
 .seq (
 .seq (
 .ops [⟨some 15, (.move (.tmp 7)), 41, none, some (nb + 15)⟩,
   ⟨some 16, (.binOp .neq 41 (.tmp 15) (.const (.int .i64 0)) 41), 4, none, some (nb + 16)⟩]) (
 .cond (.tmp 16) (
  .seq (
  .ops [⟨some 17, (.move (.tmp 7)), 41, none, some (nb + 17)⟩,
    ⟨some 4, (.assign (.const (.slice none 0 0))), 29, none, some (nb + 4)⟩,
    ⟨some 5, (.assign (.tmp 17)), 41, none, some (nb + 5)⟩]) (
  .ret)) (
  .skip))) (
 .seq (
 .ops [⟨some 18, (.load 78 (.tmp 6)), 78, none, some (nb + 18)⟩,
   ⟨some 19, (.move (.tmp 1)), 40, none, some (nb + 19)⟩,
   ⟨some 20, (.call { callee := .value (.func 34), args := #[(.tmp 18), (.tmp 19)], argTypes := #[78, 40] }), 29, none, some (nb + 20)⟩,
   ⟨some 4, (.assign (.tmp 20)), 29, none, some (nb + 4)⟩,
   ⟨some 5, (.assign (.const (.int .i64 0))), 41, none, some (nb + 5)⟩]) (
 .ret))))
@[go_sem] theorem rs16 : Go.Proofs.Try.f16.results.toList = [.tmp 4, .tmp 5] := by kernel_rfl
theorem en16 : Enters Q 16 := enters_of Go.Proofs.Try.func16 rfl (by kernel_rfl)
theorem k16 (nb : Nat) : sk nb Go.Proofs.Try.f16.ntmps (Go.Proofs.Try.f16.body.getD .skip) = some (c16 nb) := by kernel_rfl
end S12

namespace S12
open Go Abs
/-- smalto/smaltotop.sloeSlips -/
noncomputable def c17 (nb : Nat) : SC :=
 .seq (
 .ops [⟨some 6, (.box 38 (.tmp 2)), 0, none, some (nb + 6)⟩,
   ⟨some 8, (.alloc 27), 0, none, some (nb + 8)⟩]) (
 .seq (
 .ops [⟨some 11, (.move (.tmp 0)), 3, none, some (nb + 11)⟩,
   ⟨some 12, (.move (.tmp 1)), 3, none, some (nb + 12)⟩,
   ⟨some 13, (.build 27 #[(1, (.tmp 11)), (2, (.tmp 12))]), 27, none, some (nb + 13)⟩,
   ⟨some 9, (.alloc 27), 0, none, some (nb + 9)⟩,
   ⟨none, (.store 27 (.tmp 9) (.tmp 13)), 0, none, none⟩]) (
 .seq (
 .seq (
 .ops [⟨some 10, (.assign (.const (.int .i64 0))), 3, none, some (nb + 10)⟩]) (
 .block 0 (
  .loop (
   .seq (
   .seq (
   .ops [⟨some 14, (.move (.tmp 10)), 3, none, some (nb + 14)⟩,
     ⟨some 15, (.move (.tmp 3)), 40, none, some (nb + 15)⟩,
     ⟨some 16, (.call { callee := .builtin .len, args := #[(.tmp 15)], argTypes := #[40] }), 3, none, some (nb + 16)⟩,
     ⟨some 17, (.binOp .lss 3 (.tmp 14) (.tmp 16) 3), 4, none, some (nb + 17)⟩]) (
   .cond (.tmp 17) (
    .skip) (
    .exit 0))) (
   .seq (
   .block 1 (
    .opsD [⟨some 20, (.fieldAddr 27 (.tmp 9) 0), 0, none, some (nb + 20)⟩,
      ⟨some 21, (.load 25 (.tmp 20)), 25, none, some (nb + 21)⟩,
      ⟨some 22, (.move (.tmp 3)), 40, none, some (nb + 22)⟩,
      ⟨some 23, (.move (.tmp 10)), 3, none, some (nb + 23)⟩,
      ⟨some 24, (.indexAddr 40 (.tmp 22) (.tmp 23)), 0, none, some (nb + 24)⟩,
      ⟨some 25, (.load 38 (.tmp 24)), 38, none, some (nb + 25)⟩,
      ⟨some 26, (.load 38 (.tmp 6)), 38, none, some (nb + 26)⟩,
      ⟨some 27, (.move (.tmp 10)), 3, none, some (nb + 27)⟩,
      ⟨some 28, (.binOp .add 3 (.const (.int .i64 1)) (.tmp 27) 3), 3, none, some (nb + 28)⟩,
      ⟨some 29, (.build 105 #[(0, (.tmp 25)), (1, (.tmp 26)), (2, (.tmp 28))]), 105, none, some (nb + 29)⟩,
      ⟨some 30, (.buildSlice 25 1 #[(0, (.tmp 29))]), 25, none, some (nb + 30)⟩,
      ⟨some 31, (.call { callee := .builtin .append, args := #[(.tmp 21), (.tmp 30)], argTypes := #[25, 25] }), 25, none, some (nb + 31)⟩,
      ⟨some 32, (.fieldAddr 27 (.tmp 9) 0), 0, none, some (nb + 32)⟩,
      ⟨none, (.store 25 (.tmp 32) (.tmp 31)), 0, none, none⟩] [(1, 10)])) (
   .ops [⟨some 18, (.move (.tmp 10)), 3, none, some (nb + 18)⟩,
     ⟨some 19, (.binOp .add 3 (.tmp 18) (.const (.int .i64 1)) 3), 3, none, some (nb + 19)⟩,
     ⟨some 10, (.assign (.tmp 19)), 3, none, some (nb + 10)⟩])))))) (
 .seq (
 .ops [⟨some 33, (.load 27 (.tmp 9)), 27, none, some (nb + 33)⟩,
   ⟨none, (.store 27 (.tmp 8) (.tmp 33)), 0, none, none⟩]) (
 .ret))))
@[go_sem] theorem rs17 : Go.Proofs.Try.f17.results.toList = [.cell 8 27] := by kernel_rfl
theorem en17 : Enters Q 17 := enters_of Go.Proofs.Try.func17 rfl (by kernel_rfl)
theorem k17 (nb : Nat) : sk nb Go.Proofs.Try.f17.ntmps (Go.Proofs.Try.f17.body.getD .skip) = some (c17 nb) := by kernel_rfl
/-- smalto/coat.jobs -/
noncomputable def c18 (nb : Nat) : SC :=
 .seq (
 .ops [⟨some 2, (.box 27 (.tmp 0)), 0, none, some (nb + 2)⟩,
   ⟨some 4, (.alloc 71), 0, none, some (nb + 4)⟩,
   ⟨some 5, (.assign (.const (.slice none 0 0))), 59, none, some (nb + 5)⟩,
   ⟨some 6, (.assign (.const (.int .i64 0))), 41, none, some (nb + 6)⟩]) (
 .seq (
 .ops [⟨some 16, (.load 27 (.tmp 2)), 27, none, some (nb + 16)⟩,
   ⟨some 17, (.call { callee := .value (.func 35), args := #[(.tmp 16)], argTypes := #[27] }), 106, none, some (nb + 17)⟩,
   ⟨some 15, (.move (.tmp 17)), 106, none, some (nb + 15)⟩,
   ⟨some 18, (.extract (.tmp 15) 0), 71, none, some (nb + 18)⟩,
   ⟨some 19, (.extract (.tmp 15) 1), 41, none, some (nb + 19)⟩,
   ⟨none, (.store 71 (.tmp 4) (.tmp 18)), 0, none, none⟩,
   ⟨some 6, (.assign (.tmp 19)), 41, none, some (nb + 6)⟩]) (
 .seq (
 .ops [⟨some 20, (.makeFunc (.func 36) #[] #[(.tmp 4)]), 109, none, some (nb + 20)⟩,
   ⟨some 7, (.assign (.tmp 20)), 109, none, some (nb + 7)⟩]) (
 .seq (
 .block 0 (
  .seq (
  .ops [⟨some 22, (.move (.tmp 6)), 41, none, some (nb + 22)⟩,
    ⟨some 23, (.binOp .neq 41 (.tmp 22) (.const (.int .i64 0)) 41), 4, none, some (nb + 23)⟩,
    ⟨some 21, (.assign (.tmp 23)), 4, none, some (nb + 21)⟩]) (
  .cond (.tmp 21) (
   .seq (
   .ops [⟨some 24, (.load 71 (.tmp 4)), 71, none, some (nb + 24)⟩,
     ⟨some 25, (.move (.tmp 6)), 41, none, some (nb + 25)⟩,
     ⟨none, (.store 71 (.tmp 4) (.tmp 24)), 0, none, none⟩,
     ⟨some 5, (.assign (.const (.slice none 0 0))), 59, none, some (nb + 5)⟩,
     ⟨some 6, (.assign (.tmp 25)), 41, none, some (nb + 6)⟩]) (
   .ret)) (
   .seq (
   .ops [⟨some 27, (.move (.tmp 1)), 28, none, some (nb + 27)⟩,
     ⟨some 28, (.call { callee := .builtin .len, args := #[(.tmp 27)], argTypes := #[28] }), 3, none, some (nb + 28)⟩,
     ⟨some 29, (.binOp .gtr 3 (.tmp 28) (.const (.int .i64 6)) 3), 4, none, some (nb + 29)⟩,
     ⟨some 26, (.assign (.tmp 29)), 4, none, some (nb + 26)⟩]) (
   .cond (.tmp 26) (
    .seq (
    .ops [⟨some 30, (.load 71 (.tmp 4)), 71, none, some (nb + 30)⟩,
      ⟨none, (.store 71 (.tmp 4) (.tmp 30)), 0, none, none⟩,
      ⟨some 5, (.assign (.const (.slice none 0 0))), 59, none, some (nb + 5)⟩,
      ⟨some 6, (.assign (.const (.int .i64 5))), 41, none, some (nb + 6)⟩]) (
    .ret)) (
    .seq (
    .ops [⟨some 32, (.move (.tmp 1)), 28, none, some (nb + 32)⟩,
      ⟨some 33, (.move (.tmp 7)), 109, none, some (nb + 33)⟩,
      ⟨some 34, (.call { callee := .value (.func 38), args := #[(.tmp 32), (.tmp 33)], argTypes := #[28, 109] }), 4, none, some (nb + 34)⟩,
      ⟨some 31, (.assign (.tmp 34)), 4, none, some (nb + 31)⟩]) (
    .cond (.tmp 31) (
     .seq (
     .ops [⟨some 35, (.load 71 (.tmp 4)), 71, none, some (nb + 35)⟩,
       ⟨none, (.store 71 (.tmp 4) (.tmp 35)), 0, none, none⟩,
       ⟨some 5, (.assign (.const (.slice none 0 0))), 59, none, some (nb + 5)⟩,
       ⟨some 6, (.assign (.const (.int .i64 2))), 41, none, some (nb + 6)⟩]) (
     .ret)) (
     .skip)))))))) (
 .seq (
 .seq (
 .ops [⟨some 36, (.move (.tmp 1)), 28, none, some (nb + 36)⟩,
   ⟨some 37, (.call { callee := .builtin .len, args := #[(.tmp 36)], argTypes := #[28] }), 3, none, some (nb + 37)⟩,
   ⟨some 38, (.move (.const (.int .i64 0))), 3, none, some (nb + 38)⟩]) (
 .block 1 (
  .loop (
   .seq (
   .ops [⟨some 39, (.binOp .lss 3 (.tmp 38) (.tmp 37) 3), 0, none, some (nb + 39)⟩]) (
   .seq (
   .cond (.tmp 39) (
    .skip) (
    .exit 1)) (
   .seq (
   .block 2 (
    .seq (
    .ops [⟨some 40, (.indexAddr 28 (.tmp 36) (.tmp 38)), 0, none, some (nb + 40)⟩,
      ⟨some 41, (.load 54 (.tmp 40)), 54, none, some (nb + 41)⟩,
      ⟨some 9, (.alloc 54), 0, none, some (nb + 9)⟩,
      ⟨none, (.store 54 (.tmp 9) (.tmp 41)), 0, none, none⟩]) (
    .seq (
    .ops [⟨some 42, (.fieldAddr 54 (.tmp 9) 1), 0, none, some (nb + 42)⟩,
      ⟨some 43, (.load 29 (.tmp 42)), 29, none, some (nb + 43)⟩,
      ⟨some 44, (.call { callee := .value (.func 39), args := #[(.tmp 43)], argTypes := #[29] }), 112, none, some (nb + 44)⟩,
      ⟨some 10, (.alloc 112), 0, none, some (nb + 10)⟩,
      ⟨none, (.store 112 (.tmp 10) (.tmp 44)), 0, none, none⟩]) (
    .seq (
    .ops [⟨some 11, (.assign (.const (.slice none 0 0))), 40, none, some (nb + 11)⟩]) (
    .seq (
    .seq (
    .ops [⟨some 45, (.fieldAddr 71 (.tmp 4) 0), 0, none, some (nb + 45)⟩,
      ⟨some 46, (.fieldAddr 27 (.tmp 45) 0), 0, none, some (nb + 46)⟩,
      ⟨some 47, (.load 25 (.tmp 46)), 25, none, some (nb + 47)⟩,
      ⟨some 48, (.call { callee := .builtin .len, args := #[(.tmp 47)], argTypes := #[25] }), 3, none, some (nb + 48)⟩,
      ⟨some 49, (.move (.const (.int .i64 0))), 3, none, some (nb + 49)⟩]) (
    .block 3 (
     .loop (
      .seq (
      .ops [⟨some 50, (.binOp .lss 3 (.tmp 49) (.tmp 48) 3), 0, none, some (nb + 50)⟩]) (
      .seq (
      .cond (.tmp 50) (
       .skip) (
       .exit 3)) (
      .seq (
      .block 4 (
       .seq (
       .ops [⟨some 51, (.move (.tmp 49)), 3, none, some (nb + 51)⟩,
         ⟨some 52, (.indexAddr 25 (.tmp 47) (.tmp 49)), 0, none, some (nb + 52)⟩,
         ⟨some 53, (.load 105 (.tmp 52)), 105, none, some (nb + 53)⟩,
         ⟨some 13, (.alloc 105), 0, none, some (nb + 13)⟩,
         ⟨some 12, (.assign (.tmp 51)), 3, none, some (nb + 12)⟩,
         ⟨none, (.store 105 (.tmp 13) (.tmp 53)), 0, none, none⟩]) (
       .seq (
       .ops [⟨some 54, (.move (.tmp 12)), 3, none, some (nb + 54)⟩,
         ⟨some 55, (.indexAddr 112 (.tmp 10) (.tmp 54)), 0, none, some (nb + 55)⟩,
         ⟨some 56, (.load 3 (.tmp 55)), 3, none, some (nb + 56)⟩,
         ⟨some 57, (.fieldAddr 54 (.tmp 9) 0), 0, none, some (nb + 57)⟩,
         ⟨some 58, (.load 3 (.tmp 57)), 3, none, some (nb + 58)⟩,
         ⟨some 59, (.binOp .mul 3 (.tmp 56) (.tmp 58) 3), 3, none, some (nb + 59)⟩,
         ⟨some 14, (.assign (.tmp 59)), 3, none, some (nb + 14)⟩]) (
       .ops [⟨some 60, (.move (.tmp 11)), 40, none, some (nb + 60)⟩,
         ⟨some 61, (.move (.tmp 14)), 3, none, some (nb + 61)⟩,
         ⟨some 62, (.fieldAddr 105 (.tmp 13) 1), 0, none, some (nb + 62)⟩,
         ⟨some 63, (.fieldAddr 38 (.tmp 62) 0), 0, none, some (nb + 63)⟩,
         ⟨some 64, (.load 3 (.tmp 63)), 3, none, some (nb + 64)⟩,
         ⟨some 65, (.binOp .mul 3 (.tmp 61) (.tmp 64) 3), 3, none, some (nb + 65)⟩,
         ⟨some 66, (.move (.tmp 14)), 3, none, some (nb + 66)⟩,
         ⟨some 67, (.fieldAddr 105 (.tmp 13) 1), 0, none, some (nb + 67)⟩,
         ⟨some 68, (.fieldAddr 38 (.tmp 67) 1), 0, none, some (nb + 68)⟩,
         ⟨some 69, (.load 3 (.tmp 68)), 3, none, some (nb + 69)⟩,
         ⟨some 70, (.binOp .mul 3 (.tmp 66) (.tmp 69) 3), 3, none, some (nb + 70)⟩,
         ⟨some 71, (.build 38 #[(0, (.tmp 65)), (1, (.tmp 70))]), 38, none, some (nb + 71)⟩,
         ⟨some 72, (.buildSlice 40 1 #[(0, (.tmp 71))]), 40, none, some (nb + 72)⟩,
         ⟨some 73, (.call { callee := .builtin .append, args := #[(.tmp 60), (.tmp 72)], argTypes := #[40, 40] }), 40, none, some (nb + 73)⟩,
         ⟨some 11, (.assign (.tmp 73)), 40, none, some (nb + 11)⟩])))) (
      .ops [⟨some 74, (.binOp .add 3 (.tmp 49) (.const (.int .i64 1)) 3), 3, none, some (nb + 74)⟩,
        ⟨some 49, (.move (.tmp 74)), 3, none, some (nb + 49)⟩]))))))) (
    .ops [⟨some 75, (.move (.tmp 5)), 59, none, some (nb + 75)⟩,
      ⟨some 76, (.move (.tmp 11)), 40, none, some (nb + 76)⟩,
      ⟨some 77, (.buildSlice 59 1 #[(0, (.tmp 76))]), 59, none, some (nb + 77)⟩,
      ⟨some 78, (.call { callee := .builtin .append, args := #[(.tmp 75), (.tmp 77)], argTypes := #[59, 59] }), 59, none, some (nb + 78)⟩,
      ⟨some 5, (.assign (.tmp 78)), 59, none, some (nb + 5)⟩])))))) (
   .ops [⟨some 79, (.binOp .add 3 (.tmp 38) (.const (.int .i64 1)) 3), 3, none, some (nb + 79)⟩,
     ⟨some 38, (.move (.tmp 79)), 3, none, some (nb + 38)⟩]))))))) (
 .seq (
 .ops [⟨some 80, (.load 71 (.tmp 4)), 71, none, some (nb + 80)⟩,
   ⟨some 81, (.move (.tmp 5)), 59, none, some (nb + 81)⟩,
   ⟨none, (.store 71 (.tmp 4) (.tmp 80)), 0, none, none⟩,
   ⟨some 5, (.assign (.tmp 81)), 59, none, some (nb + 5)⟩,
   ⟨some 6, (.assign (.const (.int .i64 0))), 41, none, some (nb + 6)⟩]) (
 .ret))))))
@[go_sem] theorem rs18 : Go.Proofs.Try.f18.results.toList = [.cell 4 71, .tmp 5, .tmp 6] := by kernel_rfl
theorem en18 : Enters Q 18 := enters_of Go.Proofs.Try.func18 rfl (by kernel_rfl)
theorem k18 (nb : Nat) : sk nb Go.Proofs.Try.f18.ntmps (Go.Proofs.Try.f18.body.getD .skip) = some (c18 nb) := by kernel_rfl
/-- smalto/coat.within -/
noncomputable def c19 (nb : Nat) : SC :=
 .seq (
 .ops [⟨some 3, (.box 3 (.tmp 0)), 0, none, some (nb + 3)⟩,
   ⟨some 4, (.box 3 (.tmp 1)), 0, none, some (nb + 4)⟩,
   ⟨some 6, (.assign (.const (.bool false))), 4, none, some (nb + 6)⟩]) (
 .seq (
 .ops [⟨some 7, (.move (.tmp 2)), 29, none, some (nb + 7)⟩,
   ⟨some 8, (.makeFunc (.func 41) #[] #[(.tmp 3), (.tmp 4)]), 115, none, some (nb + 8)⟩,
   ⟨some 9, (.call { callee := .value (.func 40), args := #[(.tmp 7), (.tmp 8)], argTypes := #[29, 115] }), 4, none, some (nb + 9)⟩,
   ⟨some 10, (.unOp .not 4 (.tmp 9)), 4, none, some (nb + 10)⟩,
   ⟨some 6, (.assign (.tmp 10)), 4, none, some (nb + 6)⟩]) (
 .ret))
@[go_sem] theorem rs19 : Go.Proofs.Try.f19.results.toList = [.tmp 6] := by kernel_rfl
theorem en19 : Enters Q 19 := enters_of Go.Proofs.Try.func19 rfl (by kernel_rfl)
theorem k19 (nb : Nat) : sk nb Go.Proofs.Try.f19.ntmps (Go.Proofs.Try.f19.body.getD .skip) = some (c19 nb) := by kernel_rfl
/-- smalto/coat.done -/
noncomputable def c20 (nb : Nat) : SC :=
 .seq (
 .ops [⟨some 6, (.assign (.const (.int .i64 0))), 3, none, some (nb + 6)⟩]) (
 .seq (
 .ops [⟨some 12, (.move (.tmp 1)), 29, none, some (nb + 12)⟩,
   ⟨some 13, (.call { callee := .builtin .len, args := #[(.tmp 12)], argTypes := #[29] }), 3, none, some (nb + 13)⟩,
   ⟨some 14, (.makeSlice 29 (.tmp 13) (.tmp 13)), 29, none, some (nb + 14)⟩,
   ⟨some 7, (.assign (.tmp 14)), 29, none, some (nb + 7)⟩]) (
 .seq (
 .ops [⟨some 15, (.move (.tmp 7)), 29, none, some (nb + 15)⟩,
   ⟨some 16, (.move (.tmp 1)), 29, none, some (nb + 16)⟩,
   ⟨some 17, (.call { callee := .builtin .copy, args := #[(.tmp 15), (.tmp 16)], argTypes := #[29, 29] }), 3, none, some (nb + 17)⟩]) (
 .seq (
 .seq (
 .ops [⟨some 18, (.move (.tmp 0)), 59, none, some (nb + 18)⟩,
   ⟨some 19, (.call { callee := .builtin .len, args := #[(.tmp 18)], argTypes := #[59] }), 3, none, some (nb + 19)⟩,
   ⟨some 20, (.move (.const (.int .i64 0))), 3, none, some (nb + 20)⟩]) (
 .block 0 (
  .loop (
   .seq (
   .ops [⟨some 21, (.binOp .lss 3 (.tmp 20) (.tmp 19) 3), 0, none, some (nb + 21)⟩]) (
   .seq (
   .cond (.tmp 21) (
    .skip) (
    .exit 0)) (
   .seq (
   .block 1 (
    .seq (
    .ops [⟨some 22, (.indexAddr 59 (.tmp 18) (.tmp 20)), 0, none, some (nb + 22)⟩,
      ⟨some 23, (.load 40 (.tmp 22)), 40, none, some (nb + 23)⟩,
      ⟨some 9, (.assign (.tmp 23)), 40, none, some (nb + 9)⟩]) (
    .seq (
    .seq (
    .ops [⟨some 24, (.move (.tmp 9)), 40, none, some (nb + 24)⟩,
      ⟨some 25, (.call { callee := .builtin .len, args := #[(.tmp 24)], argTypes := #[40] }), 3, none, some (nb + 25)⟩,
      ⟨some 26, (.move (.const (.int .i64 0))), 3, none, some (nb + 26)⟩]) (
    .block 2 (
     .loop (
      .seq (
      .ops [⟨some 27, (.binOp .lss 3 (.tmp 26) (.tmp 25) 3), 0, none, some (nb + 27)⟩]) (
      .seq (
      .cond (.tmp 27) (
       .skip) (
       .exit 2)) (
      .seq (
      .block 3 (
       .seq (
       .ops [⟨some 28, (.move (.tmp 26)), 3, none, some (nb + 28)⟩,
         ⟨some 29, (.indexAddr 40 (.tmp 24) (.tmp 26)), 0, none, some (nb + 29)⟩,
         ⟨some 30, (.load 38 (.tmp 29)), 38, none, some (nb + 30)⟩,
         ⟨some 11, (.alloc 38), 0, none, some (nb + 11)⟩,
         ⟨some 10, (.assign (.tmp 28)), 3, none, some (nb + 10)⟩,
         ⟨none, (.store 38 (.tmp 11) (.tmp 30)), 0, none, none⟩]) (
       .seq (
       .opsD [⟨some 31, (.move (.tmp 7)), 29, none, some (nb + 31)⟩,
         ⟨some 32, (.move (.tmp 10)), 3, none, some (nb + 32)⟩,
         ⟨some 33, (.indexAddr 29 (.tmp 31) (.tmp 32)), 0, none, some (nb + 33)⟩,
         ⟨some 34, (.load 3 (.tmp 33)), 3, none, some (nb + 34)⟩,
         ⟨some 35, (.move (.tmp 2)), 116, none, some (nb + 35)⟩,
         ⟨some 36, (.load 38 (.tmp 11)), 38, none, some (nb + 36)⟩,
         ⟨some 37, (.call { callee := .value (.tmp 35), args := #[(.tmp 36)], argTypes := #[38] }), 3, none, some (nb + 37)⟩,
         ⟨some 38, (.binOp .sub 3 (.tmp 34) (.tmp 37) 3), 3, none, some (nb + 38)⟩,
         ⟨some 39, (.indexAddr 29 (.tmp 31) (.tmp 32)), 0, none, some (nb + 39)⟩,
         ⟨none, (.store 3 (.tmp 39) (.tmp 38)), 0, none, none⟩] [(2, 6), (3, 6)]) (
       .seq (
       .ops [⟨some 40, (.move (.tmp 7)), 29, none, some (nb + 40)⟩,
         ⟨some 41, (.move (.tmp 10)), 3, none, some (nb + 41)⟩,
         ⟨some 42, (.indexAddr 29 (.tmp 40) (.tmp 41)), 0, none, some (nb + 42)⟩,
         ⟨some 43, (.load 3 (.tmp 42)), 3, none, some (nb + 43)⟩,
         ⟨some 44, (.binOp .lss 3 (.tmp 43) (.const (.int .i64 0)) 3), 4, none, some (nb + 44)⟩]) (
       .cond (.tmp 44) (
        .seq (
        .ops [⟨some 45, (.move (.tmp 6)), 3, none, some (nb + 45)⟩,
          ⟨some 6, (.assign (.tmp 45)), 3, none, some (nb + 6)⟩]) (
        .ret)) (
        .skip)))))) (
      .ops [⟨some 46, (.binOp .add 3 (.tmp 26) (.const (.int .i64 1)) 3), 3, none, some (nb + 46)⟩,
        ⟨some 26, (.move (.tmp 46)), 3, none, some (nb + 26)⟩]))))))) (
    .ops [⟨some 47, (.move (.tmp 6)), 3, none, some (nb + 47)⟩,
      ⟨some 48, (.binOp .add 3 (.tmp 47) (.const (.int .i64 1)) 3), 3, none, some (nb + 48)⟩,
      ⟨some 6, (.assign (.tmp 48)), 3, none, some (nb + 6)⟩])))) (
   .ops [⟨some 49, (.binOp .add 3 (.tmp 20) (.const (.int .i64 1)) 3), 3, none, some (nb + 49)⟩,
     ⟨some 20, (.move (.tmp 49)), 3, none, some (nb + 20)⟩]))))))) (
 .seq (
 .ops [⟨some 50, (.move (.tmp 6)), 3, none, some (nb + 50)⟩,
   ⟨some 6, (.assign (.tmp 50)), 3, none, some (nb + 6)⟩]) (
 .ret)))))
@[go_sem] theorem rs20 : Go.Proofs.Try.f20.results.toList = [.tmp 6] := by kernel_rfl
theorem en20 : Enters Q 20 := enters_of Go.Proofs.Try.func20 rfl (by kernel_rfl)
theorem k20 (nb : Nat) : sk nb Go.Proofs.Try.f20.ntmps (Go.Proofs.Try.f20.body.getD .skip) = some (c20 nb) := by kernel_rfl
/-- smalto/coat.Done$1 -/
noncomputable def c21 (nb : Nat) : SC :=
 .seq (
 .ops [⟨some 1, (.box 38 (.tmp 0)), 0, none, some (nb + 1)⟩,
   ⟨some 2, (.assign (.const (.int .i64 0))), 3, none, some (nb + 2)⟩]) (
 .seq (
 .ops [⟨some 3, (.fieldAddr 38 (.tmp 1) 1), 0, none, some (nb + 3)⟩,
   ⟨some 4, (.load 3 (.tmp 3)), 3, none, some (nb + 4)⟩,
   ⟨some 2, (.assign (.tmp 4)), 3, none, some (nb + 2)⟩]) (
 .ret))
@[go_sem] theorem rs21 : Go.Proofs.Try.f21.results.toList = [.tmp 2] := by kernel_rfl
theorem en21 : Enters Q 21 := enters_of Go.Proofs.Try.func21 rfl (by kernel_rfl)
theorem k21 (nb : Nat) : sk nb Go.Proofs.Try.f21.ntmps (Go.Proofs.Try.f21.body.getD .skip) = some (c21 nb) := by kernel_rfl
/-- smalto/coat.Done$2 -/
noncomputable def c22 (nb : Nat) : SC :=
 .seq (
 .ops [⟨some 1, (.box 38 (.tmp 0)), 0, none, some (nb + 1)⟩,
   ⟨some 2, (.assign (.const (.int .i64 0))), 3, none, some (nb + 2)⟩]) (
 .seq (
 .ops [⟨some 3, (.fieldAddr 38 (.tmp 1) 0), 0, none, some (nb + 3)⟩,
   ⟨some 4, (.load 3 (.tmp 3)), 3, none, some (nb + 4)⟩,
   ⟨some 2, (.assign (.tmp 4)), 3, none, some (nb + 2)⟩]) (
 .ret))
@[go_sem] theorem rs22 : Go.Proofs.Try.f22.results.toList = [.tmp 2] := by kernel_rfl
theorem en22 : Enters Q 22 := enters_of Go.Proofs.Try.func22 rfl (by kernel_rfl)
theorem k22 (nb : Nat) : sk nb Go.Proofs.Try.f22.ntmps (Go.Proofs.Try.f22.body.getD .skip) = some (c22 nb) := by kernel_rfl
/-- smalto/ledger.open -/
noncomputable def c23 (nb : Nat) : SC :=
 .seq (
 .ops [⟨some 2, (.box 34 (.tmp 0)), 0, none, some (nb + 2)⟩,
   ⟨some 4, (.alloc 78), 0, none, some (nb + 4)⟩,
   ⟨some 5, (.assign (.const (.int .i64 0))), 41, none, some (nb + 5)⟩]) (
 .seq (
 .seq (
 .ops [⟨some 9, (.load 34 (.tmp 2)), 34, none, some (nb + 9)⟩,
   ⟨some 10, (.call { callee := .value (.func 42), args := #[(.tmp 9)], argTypes := #[34] }), 41, none, some (nb + 10)⟩,
   ⟨some 6, (.assign (.tmp 10)), 41, none, some (nb + 6)⟩]) (
 .seq (
 .ops [⟨some 11, (.move (.tmp 6)), 41, none, some (nb + 11)⟩,
   ⟨some 12, (.binOp .neq 41 (.tmp 11) (.const (.int .i64 0)) 41), 4, none, some (nb + 12)⟩]) (
 .cond (.tmp 12) (
  .seq (
  .ops [⟨some 13, (.load 78 (.tmp 4)), 78, none, some (nb + 13)⟩,
    ⟨some 14, (.move (.tmp 6)), 41, none, some (nb + 14)⟩,
    ⟨none, (.store 78 (.tmp 4) (.tmp 13)), 0, none, none⟩,
    ⟨some 5, (.assign (.tmp 14)), 41, none, some (nb + 5)⟩]) (
  .ret)) (
  .skip)))) (
 .seq (
 .seq (
 .ops [⟨some 15, (.move (.tmp 1)), 59, none, some (nb + 15)⟩,
   ⟨some 16, (.call { callee := .builtin .len, args := #[(.tmp 15)], argTypes := #[59] }), 3, none, some (nb + 16)⟩,
   ⟨some 17, (.move (.const (.int .i64 0))), 3, none, some (nb + 17)⟩]) (
 .block 0 (
  .loop (
   .seq (
   .ops [⟨some 18, (.binOp .lss 3 (.tmp 17) (.tmp 16) 3), 0, none, some (nb + 18)⟩]) (
   .seq (
   .cond (.tmp 18) (
    .skip) (
    .exit 0)) (
   .seq (
   .block 1 (
    .seq (
    .ops [⟨some 19, (.indexAddr 59 (.tmp 15) (.tmp 17)), 0, none, some (nb + 19)⟩,
      ⟨some 20, (.load 40 (.tmp 19)), 40, none, some (nb + 20)⟩,
      ⟨some 8, (.assign (.tmp 20)), 40, none, some (nb + 8)⟩]) (
    .seq (
    .ops [⟨some 21, (.move (.tmp 8)), 40, none, some (nb + 21)⟩,
      ⟨some 22, (.call { callee := .builtin .len, args := #[(.tmp 21)], argTypes := #[40] }), 3, none, some (nb + 22)⟩,
      ⟨some 23, (.fieldAddr 34 (.tmp 2) 0), 0, none, some (nb + 23)⟩,
      ⟨some 24, (.load 29 (.tmp 23)), 29, none, some (nb + 24)⟩,
      ⟨some 25, (.call { callee := .builtin .len, args := #[(.tmp 24)], argTypes := #[29] }), 3, none, some (nb + 25)⟩,
      ⟨some 26, (.binOp .neq 3 (.tmp 22) (.tmp 25) 3), 4, none, some (nb + 26)⟩,
      ⟨some 27, (.move (.tmp 26)), 4, none, some (nb + 27)⟩,
      ⟨some 28, (.move (.tmp 8)), 40, some (27, false), some (nb + 28)⟩,
      ⟨some 29, (.call { callee := .value (.func 43), args := #[(.tmp 28), (.func 44)], argTypes := #[40, 120] }), 4, some (27, false), some (nb + 29)⟩,
      ⟨some 30, (.pick (.tmp 27) (.const (.bool true)) (.tmp 29)), 4, none, some (nb + 30)⟩]) (
    .cond (.tmp 30) (
     .seq (
     .ops [⟨some 31, (.load 78 (.tmp 4)), 78, none, some (nb + 31)⟩,
       ⟨none, (.store 78 (.tmp 4) (.tmp 31)), 0, none, none⟩,
       ⟨some 5, (.assign (.const (.int .i64 3))), 41, none, some (nb + 5)⟩]) (
     .ret)) (
     .skip))))) (
   .ops [⟨some 32, (.binOp .add 3 (.tmp 17) (.const (.int .i64 1)) 3), 3, none, some (nb + 32)⟩,
     ⟨some 17, (.move (.tmp 32)), 3, none, some (nb + 17)⟩]))))))) (
 .seq (
 .ops [⟨some 33, (.load 34 (.tmp 2)), 34, none, some (nb + 33)⟩,
   ⟨some 34, (.build 78 #[(0, (.tmp 33))]), 78, none, some (nb + 34)⟩,
   ⟨none, (.store 78 (.tmp 4) (.tmp 34)), 0, none, none⟩,
   ⟨some 5, (.assign (.const (.int .i64 0))), 41, none, some (nb + 5)⟩]) (
 .ret))))
@[go_sem] theorem rs23 : Go.Proofs.Try.f23.results.toList = [.cell 4 78, .tmp 5] := by kernel_rfl
theorem en23 : Enters Q 23 := enters_of Go.Proofs.Try.func23 rfl (by kernel_rfl)
theorem k23 (nb : Nat) : sk nb Go.Proofs.Try.f23.ntmps (Go.Proofs.Try.f23.body.getD .skip) = some (c23 nb) := by kernel_rfl
/-- (smalto/ledger.book).all -/
noncomputable def c24 (nb : Nat) : SC :=
 .seq (
 .ops [⟨some 2, (.box 78 (.tmp 0)), 0, none, some (nb + 2)⟩,
   ⟨some 4, (.alloc 85), 0, none, some (nb + 4)⟩]) (
 .seq (
 .ops [⟨some 5, (.load 78 (.tmp 2)), 78, none, some (nb + 5)⟩,
   ⟨some 6, (.move (.tmp 1)), 3, none, some (nb + 6)⟩,
   ⟨some 7, (.call { callee := .value (.func 46), args := #[(.tmp 5), (.tmp 6), (.const (.int .i64 365))], argTypes := #[78, 3, 3] }), 85, none, some (nb + 7)⟩,
   ⟨none, (.store 85 (.tmp 4) (.tmp 7)), 0, none, none⟩]) (
 .ret))
@[go_sem] theorem rs24 : Go.Proofs.Try.f24.results.toList = [.cell 4 85] := by kernel_rfl
theorem en24 : Enters Q 24 := enters_of Go.Proofs.Try.func24 rfl (by kernel_rfl)
theorem k24 (nb : Nat) : sk nb Go.Proofs.Try.f24.ntmps (Go.Proofs.Try.f24.body.getD .skip) = some (c24 nb) := by kernel_rfl
/-- (smalto/ledger.account).left -/
noncomputable def c25 (nb : Nat) : SC :=
 .seq (
 .ops [⟨some 1, (.box 85 (.tmp 0)), 0, none, some (nb + 1)⟩,
   ⟨some 2, (.alloc 38), 0, none, some (nb + 2)⟩]) (
 .seq (
 .ops [⟨some 6, (.fieldAddr 85 (.tmp 1) 0), 0, none, some (nb + 6)⟩,
   ⟨some 7, (.load 3 (.tmp 6)), 3, none, some (nb + 7)⟩,
   ⟨some 8, (.fieldAddr 85 (.tmp 1) 0), 0, none, some (nb + 8)⟩,
   ⟨some 9, (.load 3 (.tmp 8)), 3, none, some (nb + 9)⟩,
   ⟨some 10, (.build 38 #[(0, (.tmp 7)), (1, (.tmp 9))]), 38, none, some (nb + 10)⟩,
   ⟨some 3, (.alloc 38), 0, none, some (nb + 3)⟩,
   ⟨none, (.store 38 (.tmp 3) (.tmp 10)), 0, none, none⟩]) (
 .seq (
 .seq (
 .ops [⟨some 11, (.fieldAddr 85 (.tmp 1) 1), 0, none, some (nb + 11)⟩,
   ⟨some 12, (.load 82 (.tmp 11)), 82, none, some (nb + 12)⟩,
   ⟨some 13, (.move (.const (.int .i64 0))), 3, none, some (nb + 13)⟩]) (
 .block 0 (
  .loop (
   .seq (
   .ops [⟨some 14, (.binOp .lss 3 (.tmp 13) (.const (.int .i64 3)) 3), 0, none, some (nb + 14)⟩]) (
   .seq (
   .cond (.tmp 14) (
    .skip) (
    .exit 0)) (
   .seq (
   .block 1 (
    .seq (
    .ops [⟨some 15, (.move (.tmp 13)), 3, none, some (nb + 15)⟩,
      ⟨some 16, (.index 82 (.tmp 12) (.tmp 13)), 3, none, some (nb + 16)⟩,
      ⟨some 4, (.assign (.tmp 15)), 3, none, some (nb + 4)⟩,
      ⟨some 5, (.assign (.tmp 16)), 3, none, some (nb + 5)⟩]) (
    .seq (
    .ops [⟨some 17, (.fieldAddr 38 (.tmp 3) 0), 0, none, some (nb + 17)⟩,
      ⟨some 18, (.load 3 (.tmp 17)), 3, none, some (nb + 18)⟩,
      ⟨some 19, (.move (.tmp 5)), 3, none, some (nb + 19)⟩,
      ⟨some 20, (.move (.tmp 4)), 3, none, some (nb + 20)⟩,
      ⟨some 21, (.fieldAddr 85 (.tmp 1) 2), 0, none, some (nb + 21)⟩,
      ⟨some 22, (.indexAddr 83 (.tmp 21) (.tmp 20)), 0, none, some (nb + 22)⟩,
      ⟨some 23, (.fieldAddr 38 (.tmp 22) 1), 0, none, some (nb + 23)⟩,
      ⟨some 24, (.load 3 (.tmp 23)), 3, none, some (nb + 24)⟩,
      ⟨some 25, (.binOp .mul 3 (.tmp 19) (.tmp 24) 3), 3, none, some (nb + 25)⟩,
      ⟨some 26, (.binOp .sub 3 (.tmp 18) (.tmp 25) 3), 3, none, some (nb + 26)⟩,
      ⟨some 27, (.fieldAddr 38 (.tmp 3) 0), 0, none, some (nb + 27)⟩,
      ⟨none, (.store 3 (.tmp 27) (.tmp 26)), 0, none, none⟩]) (
    .ops [⟨some 28, (.fieldAddr 38 (.tmp 3) 1), 0, none, some (nb + 28)⟩,
      ⟨some 29, (.load 3 (.tmp 28)), 3, none, some (nb + 29)⟩,
      ⟨some 30, (.move (.tmp 5)), 3, none, some (nb + 30)⟩,
      ⟨some 31, (.move (.tmp 4)), 3, none, some (nb + 31)⟩,
      ⟨some 32, (.fieldAddr 85 (.tmp 1) 2), 0, none, some (nb + 32)⟩,
      ⟨some 33, (.indexAddr 83 (.tmp 32) (.tmp 31)), 0, none, some (nb + 33)⟩,
      ⟨some 34, (.fieldAddr 38 (.tmp 33) 0), 0, none, some (nb + 34)⟩,
      ⟨some 35, (.load 3 (.tmp 34)), 3, none, some (nb + 35)⟩,
      ⟨some 36, (.binOp .mul 3 (.tmp 30) (.tmp 35) 3), 3, none, some (nb + 36)⟩,
      ⟨some 37, (.binOp .sub 3 (.tmp 29) (.tmp 36) 3), 3, none, some (nb + 37)⟩,
      ⟨some 38, (.fieldAddr 38 (.tmp 3) 1), 0, none, some (nb + 38)⟩,
      ⟨none, (.store 3 (.tmp 38) (.tmp 37)), 0, none, none⟩])))) (
   .ops [⟨some 39, (.binOp .add 3 (.tmp 13) (.const (.int .i64 1)) 3), 3, none, some (nb + 39)⟩,
     ⟨some 13, (.move (.tmp 39)), 3, none, some (nb + 13)⟩]))))))) (
 .seq (
 .ops [⟨some 40, (.load 38 (.tmp 3)), 38, none, some (nb + 40)⟩,
   ⟨none, (.store 38 (.tmp 2) (.tmp 40)), 0, none, none⟩]) (
 .ret))))
@[go_sem] theorem rs25 : Go.Proofs.Try.f25.results.toList = [.cell 2 38] := by kernel_rfl
theorem en25 : Enters Q 25 := enters_of Go.Proofs.Try.func25 rfl (by kernel_rfl)
theorem k25 (nb : Nat) : sk nb Go.Proofs.Try.f25.ntmps (Go.Proofs.Try.f25.body.getD .skip) = some (c25 nb) := by kernel_rfl
/-- smalto/smaltotop.sloeInts -/
noncomputable def c26 (nb : Nat) : SC :=
 .seq (
 .ops [⟨some 2, (.assign (.const (.slice none 0 0))), 29, none, some (nb + 2)⟩]) (
 .seq (
 .ops [⟨some 3, (.buildSlice 29 0 #[]), 29, none, some (nb + 3)⟩,
   ⟨some 4, (.move (.tmp 0)), 29, none, some (nb + 4)⟩,
   ⟨some 5, (.call { callee := .builtin .append, args := #[(.tmp 3), (.tmp 4)], argTypes := #[29, 29] }), 29, none, some (nb + 5)⟩,
   ⟨some 2, (.assign (.tmp 5)), 29, none, some (nb + 2)⟩]) (
 .ret))
@[go_sem] theorem rs26 : Go.Proofs.Try.f26.results.toList = [.tmp 2] := by kernel_rfl
theorem en26 : Enters Q 26 := enters_of Go.Proofs.Try.func26 rfl (by kernel_rfl)
theorem k26 (nb : Nat) : sk nb Go.Proofs.Try.f26.ntmps (Go.Proofs.Try.f26.body.getD .skip) = some (c26 nb) := by kernel_rfl
/-- smalto/ledger.within -/
noncomputable def c27 (nb : Nat) : SC :=
 .seq (
 .ops [⟨some 3, (.box 3 (.tmp 0)), 0, none, some (nb + 3)⟩,
   ⟨some 4, (.box 3 (.tmp 1)), 0, none, some (nb + 4)⟩,
   ⟨some 6, (.assign (.const (.bool false))), 4, none, some (nb + 6)⟩]) (
 .seq (
 .ops [⟨some 7, (.move (.tmp 2)), 29, none, some (nb + 7)⟩,
   ⟨some 8, (.makeFunc (.func 47) #[] #[(.tmp 3), (.tmp 4)]), 115, none, some (nb + 8)⟩,
   ⟨some 9, (.call { callee := .value (.func 40), args := #[(.tmp 7), (.tmp 8)], argTypes := #[29, 115] }), 4, none, some (nb + 9)⟩,
   ⟨some 10, (.unOp .not 4 (.tmp 9)), 4, none, some (nb + 10)⟩,
   ⟨some 6, (.assign (.tmp 10)), 4, none, some (nb + 6)⟩]) (
 .ret))
@[go_sem] theorem rs27 : Go.Proofs.Try.f27.results.toList = [.tmp 6] := by kernel_rfl
theorem en27 : Enters Q 27 := enters_of Go.Proofs.Try.func27 rfl (by kernel_rfl)
theorem k27 (nb : Nat) : sk nb Go.Proofs.Try.f27.ntmps (Go.Proofs.Try.f27.body.getD .skip) = some (c27 nb) := by kernel_rfl
/-- (smalto/ledger.book).days -/
noncomputable def c28 (nb : Nat) : SC :=
 .seq (
 .ops [⟨some 2, (.box 78 (.tmp 0)), 0, none, some (nb + 2)⟩,
   ⟨some 3, (.box 3 (.tmp 1)), 0, none, some (nb + 3)⟩,
   ⟨some 4, (.assign (.const .nilFunc)), 89, none, some (nb + 4)⟩]) (
 .seq (
 .ops [⟨some 5, (.makeFunc (.func 48) #[] #[(.tmp 2), (.tmp 3)]), 89, none, some (nb + 5)⟩,
   ⟨some 4, (.assign (.tmp 5)), 89, none, some (nb + 4)⟩]) (
 .ret))
@[go_sem] theorem rs28 : Go.Proofs.Try.f28.results.toList = [.tmp 4] := by kernel_rfl
theorem en28 : Enters Q 28 := enters_of Go.Proofs.Try.func28 rfl (by kernel_rfl)
theorem k28 (nb : Nat) : sk nb Go.Proofs.Try.f28.ntmps (Go.Proofs.Try.f28.body.getD .skip) = some (c28 nb) := by kernel_rfl
/-- smalto/ledger.Share -/
noncomputable def c29 (nb : Nat) : SC :=
 .seq (
 .ops [⟨some 2, (.box 3 (.tmp 0)), 0, none, some (nb + 2)⟩,
   ⟨some 3, (.box 29 (.tmp 1)), 0, none, some (nb + 3)⟩,
   ⟨some 4, (.assign (.const (.slice none 0 0))), 29, none, some (nb + 4)⟩,
   ⟨some 5, (.assign (.const (.int .i64 0))), 41, none, some (nb + 5)⟩]) (
 .seq (
 .ops [⟨some 6, (.alloc 3), 0, none, some (nb + 6)⟩,
   ⟨none, (.store 3 (.tmp 6) (.const (.int .i64 0))), 0, none, none⟩]) (
 .seq (
 .seq (
 .ops [⟨some 16, (.load 29 (.tmp 3)), 29, none, some (nb + 16)⟩,
   ⟨some 17, (.call { callee := .builtin .len, args := #[(.tmp 16)], argTypes := #[29] }), 3, none, some (nb + 17)⟩,
   ⟨some 18, (.move (.const (.int .i64 0))), 3, none, some (nb + 18)⟩]) (
 .block 0 (
  .loop (
   .seq (
   .ops [⟨some 19, (.binOp .lss 3 (.tmp 18) (.tmp 17) 3), 0, none, some (nb + 19)⟩]) (
   .seq (
   .cond (.tmp 19) (
    .skip) (
    .exit 0)) (
   .seq (
   .block 1 (
    .seq (
    .ops [⟨some 20, (.indexAddr 29 (.tmp 16) (.tmp 18)), 0, none, some (nb + 20)⟩,
      ⟨some 21, (.load 3 (.tmp 20)), 3, none, some (nb + 21)⟩,
      ⟨some 8, (.assign (.tmp 21)), 3, none, some (nb + 8)⟩]) (
    .ops [⟨some 22, (.load 3 (.tmp 6)), 3, none, some (nb + 22)⟩,
      ⟨some 23, (.move (.tmp 8)), 3, none, some (nb + 23)⟩,
      ⟨some 24, (.binOp .add 3 (.tmp 22) (.tmp 23) 3), 3, none, some (nb + 24)⟩,
      ⟨none, (.store 3 (.tmp 6) (.tmp 24)), 0, none, none⟩]))) (
   .ops [⟨some 25, (.binOp .add 3 (.tmp 18) (.const (.int .i64 1)) 3), 3, none, some (nb + 25)⟩,
     ⟨some 18, (.move (.tmp 25)), 3, none, some (nb + 18)⟩]))))))) (
 .seq (
 .block 2 (
  .seq (
  .ops [⟨some 27, (.load 3 (.tmp 2)), 3, none, some (nb + 27)⟩,
    ⟨some 28, (.buildSlice 29 1 #[(0, (.tmp 27))]), 29, none, some (nb + 28)⟩,
    ⟨some 29, (.call { callee := .value (.func 27), args := #[(.const (.int .i64 0)), (.const (.int .i64 100000)), (.tmp 28)], argTypes := #[3, 3, 29] }), 4, none, some (nb + 29)⟩,
    ⟨some 30, (.unOp .not 4 (.tmp 29)), 4, none, some (nb + 30)⟩,
    ⟨some 26, (.assign (.tmp 30)), 4, none, some (nb + 26)⟩]) (
  .cond (.tmp 26) (
   .seq (
   .ops [⟨some 4, (.assign (.const (.slice none 0 0))), 29, none, some (nb + 4)⟩,
     ⟨some 5, (.assign (.const (.int .i64 3))), 41, none, some (nb + 5)⟩]) (
   .ret)) (
   .seq (
   .seq (
   .ops [⟨some 32, (.load 29 (.tmp 3)), 29, none, some (nb + 32)⟩,
     ⟨some 33, (.call { callee := .builtin .len, args := #[(.tmp 32)], argTypes := #[29] }), 3, none, some (nb + 33)⟩,
     ⟨some 34, (.buildSlice 29 1 #[(0, (.tmp 33))]), 29, none, some (nb + 34)⟩,
     ⟨some 35, (.call { callee := .value (.func 27), args := #[(.const (.int .i64 1)), (.const (.int .i64 6)), (.tmp 34)], argTypes := #[3, 3, 29] }), 4, none, some (nb + 35)⟩,
     ⟨some 36, (.unOp .not 4 (.tmp 35)), 4, none, some (nb + 36)⟩,
     ⟨some 31, (.assign (.tmp 36)), 4, none, some (nb + 31)⟩]) (
   .cond (.tmp 31) (
    .skip) (
    .seq (
    .ops [⟨some 37, (.load 29 (.tmp 3)), 29, none, some (nb + 37)⟩,
      ⟨some 38, (.call { callee := .value (.func 27), args := #[(.const (.int .i64 0)), (.const (.int .i64 1000)), (.tmp 37)], argTypes := #[3, 3, 29] }), 4, none, some (nb + 38)⟩,
      ⟨some 39, (.unOp .not 4 (.tmp 38)), 4, none, some (nb + 39)⟩,
      ⟨some 31, (.assign (.tmp 39)), 4, none, some (nb + 31)⟩]) (
    .cond (.tmp 31) (
     .skip) (
     .ops [⟨some 40, (.load 3 (.tmp 6)), 3, none, some (nb + 40)⟩,
       ⟨some 41, (.binOp .eql 3 (.tmp 40) (.const (.int .i64 0)) 3), 4, none, some (nb + 41)⟩,
       ⟨some 31, (.assign (.tmp 41)), 4, none, some (nb + 31)⟩]))))) (
   .cond (.tmp 31) (
    .seq (
    .ops [⟨some 4, (.assign (.const (.slice none 0 0))), 29, none, some (nb + 4)⟩,
      ⟨some 5, (.assign (.const (.int .i64 4))), 41, none, some (nb + 5)⟩]) (
    .ret)) (
    .skip)))))) (
 .seq (
 .opsD [⟨some 42, (.load 29 (.tmp 3)), 29, none, some (nb + 42)⟩,
   ⟨some 43, (.call { callee := .builtin .len, args := #[(.tmp 42)], argTypes := #[29] }), 3, none, some (nb + 43)⟩,
   ⟨some 44, (.makeSlice 29 (.tmp 43) (.tmp 43)), 29, none, some (nb + 44)⟩,
   ⟨some 45, (.load 29 (.tmp 3)), 29, none, some (nb + 45)⟩,
   ⟨some 46, (.call { callee := .builtin .len, args := #[(.tmp 45)], argTypes := #[29] }), 3, none, some (nb + 46)⟩,
   ⟨some 47, (.makeSlice 29 (.tmp 46) (.tmp 46)), 29, none, some (nb + 47)⟩,
   ⟨some 48, (.load 3 (.tmp 2)), 3, none, some (nb + 48)⟩,
   ⟨some 9, (.assign (.tmp 44)), 29, none, some (nb + 9)⟩,
   ⟨some 10, (.assign (.tmp 47)), 29, none, some (nb + 10)⟩,
   ⟨some 11, (.assign (.tmp 48)), 3, none, some (nb + 11)⟩] [(2, 3), (2, 4), (0, 5), (1, 5), (2, 5), (2, 6), (5, 6), (3, 7), (4, 7), (5, 7), (6, 7), (6, 8)]) (
 .seq (
 .seq (
 .ops [⟨some 49, (.load 29 (.tmp 3)), 29, none, some (nb + 49)⟩,
   ⟨some 50, (.call { callee := .builtin .len, args := #[(.tmp 49)], argTypes := #[29] }), 3, none, some (nb + 50)⟩,
   ⟨some 51, (.move (.const (.int .i64 0))), 3, none, some (nb + 51)⟩]) (
 .block 3 (
  .loop (
   .seq (
   .ops [⟨some 52, (.binOp .lss 3 (.tmp 51) (.tmp 50) 3), 0, none, some (nb + 52)⟩]) (
   .seq (
   .cond (.tmp 52) (
    .skip) (
    .exit 3)) (
   .seq (
   .block 4 (
    .seq (
    .ops [⟨some 53, (.move (.tmp 51)), 3, none, some (nb + 53)⟩,
      ⟨some 54, (.indexAddr 29 (.tmp 49) (.tmp 51)), 0, none, some (nb + 54)⟩,
      ⟨some 55, (.load 3 (.tmp 54)), 3, none, some (nb + 55)⟩,
      ⟨some 12, (.assign (.tmp 53)), 3, none, some (nb + 12)⟩,
      ⟨some 13, (.assign (.tmp 55)), 3, none, some (nb + 13)⟩]) (
    .seq (
    .ops [⟨some 56, (.move (.tmp 9)), 29, none, some (nb + 56)⟩,
      ⟨some 57, (.move (.tmp 12)), 3, none, some (nb + 57)⟩,
      ⟨some 58, (.move (.tmp 10)), 29, none, some (nb + 58)⟩,
      ⟨some 59, (.move (.tmp 12)), 3, none, some (nb + 59)⟩,
      ⟨some 60, (.load 3 (.tmp 2)), 3, none, some (nb + 60)⟩,
      ⟨some 61, (.move (.tmp 13)), 3, none, some (nb + 61)⟩,
      ⟨some 62, (.binOp .mul 3 (.tmp 60) (.tmp 61) 3), 3, none, some (nb + 62)⟩,
      ⟨some 63, (.load 3 (.tmp 6)), 3, none, some (nb + 63)⟩,
      ⟨some 64, (.binOp .quo 3 (.tmp 62) (.tmp 63) 3), 3, none, some (nb + 64)⟩,
      ⟨some 65, (.move (.tmp 12)), 3, none, some (nb + 65)⟩,
      ⟨some 66, (.indexAddr 29 (.tmp 56) (.tmp 57)), 0, none, some (nb + 66)⟩,
      ⟨none, (.store 3 (.tmp 66) (.tmp 64)), 0, none, none⟩,
      ⟨some 67, (.indexAddr 29 (.tmp 58) (.tmp 59)), 0, none, some (nb + 67)⟩,
      ⟨none, (.store 3 (.tmp 67) (.tmp 65)), 0, none, none⟩]) (
    .ops [⟨some 68, (.move (.tmp 11)), 3, none, some (nb + 68)⟩,
      ⟨some 69, (.move (.tmp 9)), 29, none, some (nb + 69)⟩,
      ⟨some 70, (.move (.tmp 12)), 3, none, some (nb + 70)⟩,
      ⟨some 71, (.indexAddr 29 (.tmp 69) (.tmp 70)), 0, none, some (nb + 71)⟩,
      ⟨some 72, (.load 3 (.tmp 71)), 3, none, some (nb + 72)⟩,
      ⟨some 73, (.binOp .sub 3 (.tmp 68) (.tmp 72) 3), 3, none, some (nb + 73)⟩,
      ⟨some 11, (.assign (.tmp 73)), 3, none, some (nb + 11)⟩])))) (
   .ops [⟨some 74, (.binOp .add 3 (.tmp 51) (.const (.int .i64 1)) 3), 3, none, some (nb + 74)⟩,
     ⟨some 51, (.move (.tmp 74)), 3, none, some (nb + 51)⟩]))))))) (
 .seq (
 .ops [⟨some 75, (.move (.tmp 10)), 29, none, some (nb + 75)⟩,
   ⟨some 76, (.makeFunc (.func 50) #[] #[(.tmp 2), (.tmp 3), (.tmp 6)]), 124, none, some (nb + 76)⟩,
   ⟨some 77, (.call { callee := .value (.func 49), args := #[(.tmp 75), (.tmp 76)], argTypes := #[29, 124] }), 0, none, some (nb + 77)⟩]) (
 .seq (
 .seq (
 .ops [⟨some 78, (.move (.tmp 10)), 29, none, some (nb + 78)⟩,
   ⟨some 79, (.move (.tmp 11)), 3, none, some (nb + 79)⟩,
   ⟨some 80, (.slice 29 (.tmp 78) none (some (.tmp 79)) none), 29, none, some (nb + 80)⟩,
   ⟨some 81, (.call { callee := .builtin .len, args := #[(.tmp 80)], argTypes := #[29] }), 3, none, some (nb + 81)⟩,
   ⟨some 82, (.move (.const (.int .i64 0))), 3, none, some (nb + 82)⟩]) (
 .block 5 (
  .loop (
   .seq (
   .ops [⟨some 83, (.binOp .lss 3 (.tmp 82) (.tmp 81) 3), 0, none, some (nb + 83)⟩]) (
   .seq (
   .cond (.tmp 83) (
    .skip) (
    .exit 5)) (
   .seq (
   .block 6 (
    .seq (
    .ops [⟨some 84, (.indexAddr 29 (.tmp 80) (.tmp 82)), 0, none, some (nb + 84)⟩,
      ⟨some 85, (.load 3 (.tmp 84)), 3, none, some (nb + 85)⟩,
      ⟨some 15, (.assign (.tmp 85)), 3, none, some (nb + 15)⟩]) (
    .ops [⟨some 86, (.move (.tmp 9)), 29, none, some (nb + 86)⟩,
      ⟨some 87, (.move (.tmp 15)), 3, none, some (nb + 87)⟩,
      ⟨some 88, (.indexAddr 29 (.tmp 86) (.tmp 87)), 0, none, some (nb + 88)⟩,
      ⟨some 89, (.load 3 (.tmp 88)), 3, none, some (nb + 89)⟩,
      ⟨some 90, (.binOp .add 3 (.tmp 89) (.const (.int .i64 1)) 3), 3, none, some (nb + 90)⟩,
      ⟨some 91, (.indexAddr 29 (.tmp 86) (.tmp 87)), 0, none, some (nb + 91)⟩,
      ⟨none, (.store 3 (.tmp 91) (.tmp 90)), 0, none, none⟩]))) (
   .ops [⟨some 92, (.binOp .add 3 (.tmp 82) (.const (.int .i64 1)) 3), 3, none, some (nb + 92)⟩,
     ⟨some 82, (.move (.tmp 92)), 3, none, some (nb + 82)⟩]))))))) (
 .seq (
 .ops [⟨some 93, (.move (.tmp 9)), 29, none, some (nb + 93)⟩,
   ⟨some 4, (.assign (.tmp 93)), 29, none, some (nb + 4)⟩,
   ⟨some 5, (.assign (.const (.int .i64 0))), 41, none, some (nb + 5)⟩]) (
 .ret)))))))))
@[go_sem] theorem rs29 : Go.Proofs.Try.f29.results.toList = [.tmp 4, .tmp 5] := by kernel_rfl
theorem en29 : Enters Q 29 := enters_of Go.Proofs.Try.func29 rfl (by kernel_rfl)
theorem k29 (nb : Nat) : sk nb Go.Proofs.Try.f29.ntmps (Go.Proofs.Try.f29.body.getD .skip) = some (c29 nb) := by kernel_rfl
/-- smalto/smaltotop.sloeSame -/
noncomputable def c30 (nb : Nat) : SC :=
 .seq (
 .ops [⟨some 4, (.assign (.const (.bool false))), 4, none, some (nb + 4)⟩]) (
 .seq (
 .seq (
 .ops [⟨some 6, (.move (.tmp 0)), 29, none, some (nb + 6)⟩,
   ⟨some 7, (.call { callee := .builtin .len, args := #[(.tmp 6)], argTypes := #[29] }), 3, none, some (nb + 7)⟩,
   ⟨some 8, (.move (.tmp 1)), 29, none, some (nb + 8)⟩,
   ⟨some 9, (.call { callee := .builtin .len, args := #[(.tmp 8)], argTypes := #[29] }), 3, none, some (nb + 9)⟩,
   ⟨some 10, (.binOp .neq 3 (.tmp 7) (.tmp 9) 3), 4, none, some (nb + 10)⟩]) (
 .cond (.tmp 10) (
  .seq (
  .ops [⟨some 4, (.assign (.const (.bool false))), 4, none, some (nb + 4)⟩]) (
  .ret)) (
  .skip))) (
 .seq (
 .seq (
 .ops [⟨some 5, (.assign (.const (.int .i64 0))), 3, none, some (nb + 5)⟩]) (
 .block 0 (
  .loop (
   .seq (
   .seq (
   .ops [⟨some 11, (.move (.tmp 5)), 3, none, some (nb + 11)⟩,
     ⟨some 12, (.move (.tmp 0)), 29, none, some (nb + 12)⟩,
     ⟨some 13, (.call { callee := .builtin .len, args := #[(.tmp 12)], argTypes := #[29] }), 3, none, some (nb + 13)⟩,
     ⟨some 14, (.binOp .lss 3 (.tmp 11) (.tmp 13) 3), 4, none, some (nb + 14)⟩]) (
   .cond (.tmp 14) (
    .skip) (
    .exit 0))) (
   .seq (
   .block 1 (
    .seq (
    .ops [⟨some 17, (.move (.tmp 0)), 29, none, some (nb + 17)⟩,
      ⟨some 18, (.move (.tmp 5)), 3, none, some (nb + 18)⟩,
      ⟨some 19, (.indexAddr 29 (.tmp 17) (.tmp 18)), 0, none, some (nb + 19)⟩,
      ⟨some 20, (.load 3 (.tmp 19)), 3, none, some (nb + 20)⟩,
      ⟨some 21, (.move (.tmp 1)), 29, none, some (nb + 21)⟩,
      ⟨some 22, (.move (.tmp 5)), 3, none, some (nb + 22)⟩,
      ⟨some 23, (.indexAddr 29 (.tmp 21) (.tmp 22)), 0, none, some (nb + 23)⟩,
      ⟨some 24, (.load 3 (.tmp 23)), 3, none, some (nb + 24)⟩,
      ⟨some 25, (.binOp .neq 3 (.tmp 20) (.tmp 24) 3), 4, none, some (nb + 25)⟩]) (
    .cond (.tmp 25) (
     .seq (
     .ops [⟨some 4, (.assign (.const (.bool false))), 4, none, some (nb + 4)⟩]) (
     .ret)) (
     .skip)))) (
   .ops [⟨some 15, (.move (.tmp 5)), 3, none, some (nb + 15)⟩,
     ⟨some 16, (.binOp .add 3 (.tmp 15) (.const (.int .i64 1)) 3), 3, none, some (nb + 16)⟩,
     ⟨some 5, (.assign (.tmp 16)), 3, none, some (nb + 5)⟩])))))) (
 .seq (
 .ops [⟨some 4, (.assign (.const (.bool true))), 4, none, some (nb + 4)⟩]) (
 .ret))))
@[go_sem] theorem rs30 : Go.Proofs.Try.f30.results.toList = [.tmp 4] := by kernel_rfl
theorem en30 : Enters Q 30 := enters_of Go.Proofs.Try.func30 rfl (by kernel_rfl)
theorem k30 (nb : Nat) : sk nb Go.Proofs.Try.f30.ntmps (Go.Proofs.Try.f30.body.getD .skip) = some (c30 nb) := by kernel_rfl
/-- smalto/coat.openWeighings -/
noncomputable def c31 (nb : Nat) : SC :=
 .seq (
 .ops [⟨some 2, (.box 27 (.tmp 0)), 0, none, some (nb + 2)⟩,
   ⟨some 4, (.alloc 96), 0, none, some (nb + 4)⟩,
   ⟨some 5, (.assign (.const (.int .i64 0))), 41, none, some (nb + 5)⟩]) (
 .seq (
 .ops [⟨some 9, (.load 27 (.tmp 2)), 27, none, some (nb + 9)⟩,
   ⟨some 10, (.call { callee := .value (.func 35), args := #[(.tmp 9)], argTypes := #[27] }), 106, none, some (nb + 10)⟩,
   ⟨some 8, (.move (.tmp 10)), 106, none, some (nb + 8)⟩,
   ⟨some 11, (.extract (.tmp 8) 0), 71, none, some (nb + 11)⟩,
   ⟨some 12, (.extract (.tmp 8) 1), 41, none, some (nb + 12)⟩,
   ⟨some 6, (.alloc 71), 0, none, some (nb + 6)⟩,
   ⟨none, (.store 71 (.tmp 6) (.tmp 11)), 0, none, none⟩,
   ⟨some 5, (.assign (.tmp 12)), 41, none, some (nb + 5)⟩]) (
 .seq (
 .ops [⟨some 13, (.makeFunc (.func 52) #[] #[(.tmp 6)]), 125, none, some (nb + 13)⟩,
   ⟨some 7, (.assign (.tmp 13)), 125, none, some (nb + 7)⟩]) (
 .seq (
 .block 0 (
  .seq (
  .ops [⟨some 15, (.move (.tmp 5)), 41, none, some (nb + 15)⟩,
    ⟨some 16, (.binOp .neq 41 (.tmp 15) (.const (.int .i64 0)) 41), 4, none, some (nb + 16)⟩,
    ⟨some 14, (.assign (.tmp 16)), 4, none, some (nb + 14)⟩]) (
  .cond (.tmp 14) (
   .seq (
   .ops [⟨some 17, (.load 96 (.tmp 4)), 96, none, some (nb + 17)⟩,
     ⟨some 18, (.move (.tmp 5)), 41, none, some (nb + 18)⟩,
     ⟨none, (.store 96 (.tmp 4) (.tmp 17)), 0, none, none⟩,
     ⟨some 5, (.assign (.tmp 18)), 41, none, some (nb + 5)⟩]) (
   .ret)) (
   .seq (
   .ops [⟨some 20, (.move (.tmp 1)), 58, none, some (nb + 20)⟩,
     ⟨some 21, (.call { callee := .builtin .len, args := #[(.tmp 20)], argTypes := #[58] }), 3, none, some (nb + 21)⟩,
     ⟨some 22, (.binOp .gtr 3 (.tmp 21) (.const (.int .i64 6)) 3), 4, none, some (nb + 22)⟩,
     ⟨some 19, (.assign (.tmp 22)), 4, none, some (nb + 19)⟩]) (
   .cond (.tmp 19) (
    .seq (
    .ops [⟨some 23, (.load 96 (.tmp 4)), 96, none, some (nb + 23)⟩,
      ⟨none, (.store 96 (.tmp 4) (.tmp 23)), 0, none, none⟩,
      ⟨some 5, (.assign (.const (.int .i64 5))), 41, none, some (nb + 5)⟩]) (
    .ret)) (
    .seq (
    .ops [⟨some 25, (.move (.tmp 1)), 58, none, some (nb + 25)⟩,
      ⟨some 26, (.move (.tmp 7)), 125, none, some (nb + 26)⟩,
      ⟨some 27, (.call { callee := .value (.func 54), args := #[(.tmp 25), (.tmp 26)], argTypes := #[58, 125] }), 4, none, some (nb + 27)⟩,
      ⟨some 24, (.assign (.tmp 27)), 4, none, some (nb + 24)⟩]) (
    .cond (.tmp 24) (
     .seq (
     .ops [⟨some 28, (.load 96 (.tmp 4)), 96, none, some (nb + 28)⟩,
       ⟨none, (.store 96 (.tmp 4) (.tmp 28)), 0, none, none⟩,
       ⟨some 5, (.assign (.const (.int .i64 2))), 41, none, some (nb + 5)⟩]) (
     .ret)) (
     .skip)))))))) (
 .seq (
 .ops [⟨some 29, (.load 71 (.tmp 6)), 71, none, some (nb + 29)⟩,
   ⟨some 30, (.move (.tmp 1)), 58, none, some (nb + 30)⟩,
   ⟨some 31, (.build 96 #[(0, (.tmp 29)), (1, (.tmp 30))]), 96, none, some (nb + 31)⟩,
   ⟨none, (.store 96 (.tmp 4) (.tmp 31)), 0, none, none⟩,
   ⟨some 5, (.assign (.const (.int .i64 0))), 41, none, some (nb + 5)⟩]) (
 .ret)))))
@[go_sem] theorem rs31 : Go.Proofs.Try.f31.results.toList = [.cell 4 96, .tmp 5] := by kernel_rfl
theorem en31 : Enters Q 31 := enters_of Go.Proofs.Try.func31 rfl (by kernel_rfl)
theorem k31 (nb : Nat) : sk nb Go.Proofs.Try.f31.ntmps (Go.Proofs.Try.f31.body.getD .skip) = some (c31 nb) := by kernel_rfl
/-- (smalto/coat.weighings).ounces -/
noncomputable def c32 (nb : Nat) : SC :=
 .seq (
 .ops [⟨some 1, (.box 96 (.tmp 0)), 0, none, some (nb + 1)⟩,
   ⟨some 2, (.assign (.const (.slice none 0 0))), 40, none, some (nb + 2)⟩,
   ⟨some 3, (.assign (.const (.bool false))), 4, none, some (nb + 3)⟩]) (
 .seq (
 .seq (
 .ops [⟨some 9, (.fieldAddr 96 (.tmp 1) 0), 0, none, some (nb + 9)⟩,
   ⟨some 10, (.fieldAddr 71 (.tmp 9) 0), 0, none, some (nb + 10)⟩,
   ⟨some 11, (.fieldAddr 27 (.tmp 10) 0), 0, none, some (nb + 11)⟩,
   ⟨some 12, (.load 25 (.tmp 11)), 25, none, some (nb + 12)⟩,
   ⟨some 13, (.call { callee := .builtin .len, args := #[(.tmp 12)], argTypes := #[25] }), 3, none, some (nb + 13)⟩,
   ⟨some 14, (.move (.const (.int .i64 0))), 3, none, some (nb + 14)⟩]) (
 .block 0 (
  .loop (
   .seq (
   .ops [⟨some 15, (.binOp .lss 3 (.tmp 14) (.tmp 13) 3), 0, none, some (nb + 15)⟩]) (
   .seq (
   .cond (.tmp 15) (
    .skip) (
    .exit 0)) (
   .seq (
   .block 1 (
    .seq (
    .ops [⟨some 16, (.indexAddr 25 (.tmp 12) (.tmp 14)), 0, none, some (nb + 16)⟩,
      ⟨some 17, (.load 105 (.tmp 16)), 105, none, some (nb + 17)⟩,
      ⟨some 5, (.alloc 105), 0, none, some (nb + 5)⟩,
      ⟨none, (.store 105 (.tmp 5) (.tmp 17)), 0, none, none⟩]) (
    .ops [⟨some 18, (.move (.tmp 2)), 40, none, some (nb + 18)⟩,
      ⟨some 19, (.fieldAddr 105 (.tmp 5) 1), 0, none, some (nb + 19)⟩,
      ⟨some 20, (.load 38 (.tmp 19)), 38, none, some (nb + 20)⟩,
      ⟨some 21, (.buildSlice 40 1 #[(0, (.tmp 20))]), 40, none, some (nb + 21)⟩,
      ⟨some 22, (.call { callee := .builtin .append, args := #[(.tmp 18), (.tmp 21)], argTypes := #[40, 40] }), 40, none, some (nb + 22)⟩,
      ⟨some 2, (.assign (.tmp 22)), 40, none, some (nb + 2)⟩]))) (
   .ops [⟨some 23, (.binOp .add 3 (.tmp 14) (.const (.int .i64 1)) 3), 3, none, some (nb + 23)⟩,
     ⟨some 14, (.move (.tmp 23)), 3, none, some (nb + 14)⟩]))))))) (
 .seq (
 .seq (
 .ops [⟨some 24, (.fieldAddr 96 (.tmp 1) 1), 0, none, some (nb + 24)⟩,
   ⟨some 25, (.load 58 (.tmp 24)), 58, none, some (nb + 25)⟩,
   ⟨some 26, (.call { callee := .builtin .len, args := #[(.tmp 25)], argTypes := #[58] }), 3, none, some (nb + 26)⟩,
   ⟨some 27, (.move (.const (.int .i64 0))), 3, none, some (nb + 27)⟩]) (
 .block 2 (
  .loop (
   .seq (
   .ops [⟨some 28, (.binOp .lss 3 (.tmp 27) (.tmp 26) 3), 0, none, some (nb + 28)⟩]) (
   .seq (
   .cond (.tmp 28) (
    .skip) (
    .exit 2)) (
   .seq (
   .block 3 (
    .seq (
    .ops [⟨some 29, (.move (.tmp 27)), 3, none, some (nb + 29)⟩,
      ⟨some 30, (.indexAddr 58 (.tmp 25) (.tmp 27)), 0, none, some (nb + 30)⟩,
      ⟨some 31, (.load 57 (.tmp 30)), 57, none, some (nb + 31)⟩,
      ⟨some 7, (.alloc 57), 0, none, some (nb + 7)⟩,
      ⟨some 6, (.assign (.tmp 29)), 3, none, some (nb + 6)⟩,
      ⟨none, (.store 57 (.tmp 7) (.tmp 31)), 0, none, none⟩]) (
    .seq (
    .seq (
    .ops [⟨some 32, (.fieldAddr 96 (.tmp 1) 2), 0, none, some (nb + 32)⟩,
      ⟨some 33, (.load 3 (.tmp 32)), 3, none, some (nb + 33)⟩,
      ⟨some 34, (.move (.tmp 6)), 3, none, some (nb + 34)⟩,
      ⟨some 35, (.binOp .shr 3 (.tmp 33) (.tmp 34) 3), 3, none, some (nb + 35)⟩,
      ⟨some 36, (.binOp .and 3 (.tmp 35) (.const (.int .i64 1)) 3), 3, none, some (nb + 36)⟩,
      ⟨some 37, (.binOp .eql 3 (.tmp 36) (.const (.int .i64 1)) 3), 4, none, some (nb + 37)⟩]) (
    .cond (.tmp 37) (
     .exit 3) (
     .skip))) (
    .seq (
    .ops [⟨some 38, (.move (.tmp 2)), 40, none, some (nb + 38)⟩,
      ⟨some 39, (.fieldAddr 57 (.tmp 7) 0), 0, none, some (nb + 39)⟩,
      ⟨some 40, (.load 3 (.tmp 39)), 3, none, some (nb + 40)⟩,
      ⟨some 41, (.indexAddr 40 (.tmp 38) (.tmp 40)), 0, none, some (nb + 41)⟩,
      ⟨some 8, (.assign (.tmp 41)), 127, none, some (nb + 8)⟩]) (
    .seq (
    .ops [⟨some 42, (.move (.tmp 8)), 127, none, some (nb + 42)⟩,
      ⟨some 43, (.move (.tmp 8)), 127, none, some (nb + 43)⟩,
      ⟨some 44, (.nilCheck (.tmp 43)), 0, none, some (nb + 44)⟩,
      ⟨some 45, (.fieldAddr 38 (.tmp 44) 0), 0, none, some (nb + 45)⟩,
      ⟨some 46, (.load 3 (.tmp 45)), 3, none, some (nb + 46)⟩,
      ⟨some 47, (.fieldAddr 57 (.tmp 7) 2), 0, none, some (nb + 47)⟩,
      ⟨some 48, (.fieldAddr 38 (.tmp 47) 0), 0, none, some (nb + 48)⟩,
      ⟨some 49, (.load 3 (.tmp 48)), 3, none, some (nb + 49)⟩,
      ⟨some 50, (.fieldAddr 57 (.tmp 7) 1), 0, none, some (nb + 50)⟩,
      ⟨some 51, (.load 3 (.tmp 50)), 3, none, some (nb + 51)⟩,
      ⟨some 52, (.binOp .add 3 (.tmp 49) (.tmp 51) 3), 3, none, some (nb + 52)⟩,
      ⟨some 53, (.binOp .sub 3 (.tmp 52) (.const (.int .i64 1)) 3), 3, none, some (nb + 53)⟩,
      ⟨some 54, (.fieldAddr 57 (.tmp 7) 1), 0, none, some (nb + 54)⟩,
      ⟨some 55, (.load 3 (.tmp 54)), 3, none, some (nb + 55)⟩,
      ⟨some 56, (.binOp .quo 3 (.tmp 53) (.tmp 55) 3), 3, none, some (nb + 56)⟩,
      ⟨some 57, (.call { callee := .builtin .max, args := #[(.tmp 46), (.tmp 56)], argTypes := #[3, 3] }), 3, none, some (nb + 57)⟩,
      ⟨some 58, (.nilCheck (.tmp 42)), 0, none, some (nb + 58)⟩,
      ⟨some 59, (.fieldAddr 38 (.tmp 58) 0), 0, none, some (nb + 59)⟩,
      ⟨none, (.store 3 (.tmp 59) (.tmp 57)), 0, none, none⟩]) (
    .seq (
    .ops [⟨some 60, (.move (.tmp 8)), 127, none, some (nb + 60)⟩,
      ⟨some 61, (.move (.tmp 8)), 127, none, some (nb + 61)⟩,
      ⟨some 62, (.nilCheck (.tmp 61)), 0, none, some (nb + 62)⟩,
      ⟨some 63, (.fieldAddr 38 (.tmp 62) 1), 0, none, some (nb + 63)⟩,
      ⟨some 64, (.load 3 (.tmp 63)), 3, none, some (nb + 64)⟩,
      ⟨some 65, (.fieldAddr 57 (.tmp 7) 2), 0, none, some (nb + 65)⟩,
      ⟨some 66, (.fieldAddr 38 (.tmp 65) 1), 0, none, some (nb + 66)⟩,
      ⟨some 67, (.load 3 (.tmp 66)), 3, none, some (nb + 67)⟩,
      ⟨some 68, (.fieldAddr 57 (.tmp 7) 1), 0, none, some (nb + 68)⟩,
      ⟨some 69, (.load 3 (.tmp 68)), 3, none, some (nb + 69)⟩,
      ⟨some 70, (.binOp .quo 3 (.tmp 67) (.tmp 69) 3), 3, none, some (nb + 70)⟩,
      ⟨some 71, (.call { callee := .builtin .min, args := #[(.tmp 64), (.tmp 70)], argTypes := #[3, 3] }), 3, none, some (nb + 71)⟩,
      ⟨some 72, (.nilCheck (.tmp 60)), 0, none, some (nb + 72)⟩,
      ⟨some 73, (.fieldAddr 38 (.tmp 72) 1), 0, none, some (nb + 73)⟩,
      ⟨none, (.store 3 (.tmp 73) (.tmp 71)), 0, none, none⟩]) (
    .seq (
    .ops [⟨some 74, (.move (.tmp 8)), 127, none, some (nb + 74)⟩,
      ⟨some 75, (.nilCheck (.tmp 74)), 0, none, some (nb + 75)⟩,
      ⟨some 76, (.fieldAddr 38 (.tmp 75) 0), 0, none, some (nb + 76)⟩,
      ⟨some 77, (.load 3 (.tmp 76)), 3, none, some (nb + 77)⟩,
      ⟨some 78, (.move (.tmp 8)), 127, none, some (nb + 78)⟩,
      ⟨some 79, (.nilCheck (.tmp 78)), 0, none, some (nb + 79)⟩,
      ⟨some 80, (.fieldAddr 38 (.tmp 79) 1), 0, none, some (nb + 80)⟩,
      ⟨some 81, (.load 3 (.tmp 80)), 3, none, some (nb + 81)⟩,
      ⟨some 82, (.binOp .gtr 3 (.tmp 77) (.tmp 81) 3), 4, none, some (nb + 82)⟩]) (
    .cond (.tmp 82) (
     .seq (
     .ops [⟨some 2, (.assign (.const (.slice none 0 0))), 40, none, some (nb + 2)⟩,
       ⟨some 3, (.assign (.const (.bool false))), 4, none, some (nb + 3)⟩]) (
     .ret)) (
     .skip))))))))) (
   .ops [⟨some 83, (.binOp .add 3 (.tmp 27) (.const (.int .i64 1)) 3), 3, none, some (nb + 83)⟩,
     ⟨some 27, (.move (.tmp 83)), 3, none, some (nb + 27)⟩]))))))) (
 .seq (
 .ops [⟨some 84, (.move (.tmp 2)), 40, none, some (nb + 84)⟩,
   ⟨some 2, (.assign (.tmp 84)), 40, none, some (nb + 2)⟩,
   ⟨some 3, (.assign (.const (.bool true))), 4, none, some (nb + 3)⟩]) (
 .ret))))
@[go_sem] theorem rs32 : Go.Proofs.Try.f32.results.toList = [.tmp 2, .tmp 3] := by kernel_rfl
theorem en32 : Enters Q 32 := enters_of Go.Proofs.Try.func32 rfl (by kernel_rfl)
theorem k32 (nb : Nat) : sk nb Go.Proofs.Try.f32.ntmps (Go.Proofs.Try.f32.body.getD .skip) = some (c32 nb) := by kernel_rfl
/-- (smalto/ledger.book).told -/
noncomputable def c33 (nb : Nat) : SC :=
 .seq (
 .ops [⟨some 3, (.box 78 (.tmp 0)), 0, none, some (nb + 3)⟩,
   ⟨some 5, (.box 38 (.tmp 2)), 0, none, some (nb + 5)⟩,
   ⟨some 6, (.alloc 83), 0, none, some (nb + 6)⟩,
   ⟨some 7, (.alloc 4), 0, none, some (nb + 7)⟩]) (
 .seq (
 .seq (
 .ops [⟨some 12, (.load 78 (.tmp 3)), 78, none, some (nb + 12)⟩,
   ⟨some 13, (.move (.tmp 1)), 3, none, some (nb + 13)⟩,
   ⟨some 14, (.call { callee := .value (.func 24), args := #[(.tmp 12), (.tmp 13)], argTypes := #[78, 3] }), 85, none, some (nb + 14)⟩,
   ⟨some 15, (.makeFunc (.func 55) #[(.tmp 14)] #[]), 128, none, some (nb + 15)⟩]) (
 .block 0 (
  .rangeF (.tmp 15) [16, 17] (
   .seq (
   .ops [⟨some 8, (.alloc 82), 0, none, some (nb + 8)⟩,
     ⟨none, (.store 82 (.tmp 8) (.tmp 16)), 0, none, none⟩]) (
   .ops [⟨some 9, (.assign (.tmp 17)), 3, none, some (nb + 9)⟩])) (
   .block 1 (
    .seq (
    .seq (
    .ops [⟨some 18, (.fieldAddr 38 (.tmp 5) 0), 0, none, some (nb + 18)⟩,
      ⟨some 19, (.load 3 (.tmp 18)), 3, none, some (nb + 19)⟩,
      ⟨some 20, (.fieldAddr 38 (.tmp 5) 1), 0, none, some (nb + 20)⟩,
      ⟨some 21, (.load 3 (.tmp 20)), 3, none, some (nb + 21)⟩,
      ⟨some 22, (.move (.tmp 9)), 3, none, some (nb + 22)⟩,
      ⟨some 23, (.buildSlice 29 1 #[(0, (.tmp 22))]), 29, none, some (nb + 23)⟩,
      ⟨some 24, (.call { callee := .value (.func 27), args := #[(.tmp 19), (.tmp 21), (.tmp 23)], argTypes := #[3, 3, 29] }), 4, none, some (nb + 24)⟩,
      ⟨some 25, (.unOp .not 4 (.tmp 24)), 4, none, some (nb + 25)⟩]) (
    .cond (.tmp 25) (
     .exit 1) (
     .skip))) (
    .seq (
    .seq (
    .ops [⟨some 26, (.load 82 (.tmp 8)), 82, none, some (nb + 26)⟩,
      ⟨some 27, (.move (.const (.int .i64 0))), 3, none, some (nb + 27)⟩]) (
    .block 2 (
     .loop (
      .seq (
      .ops [⟨some 28, (.binOp .lss 3 (.tmp 27) (.const (.int .i64 3)) 3), 0, none, some (nb + 28)⟩]) (
      .seq (
      .cond (.tmp 28) (
       .skip) (
       .exit 2)) (
      .seq (
      .block 3 (
       .seq (
       .ops [⟨some 29, (.move (.tmp 27)), 3, none, some (nb + 29)⟩,
         ⟨some 30, (.index 82 (.tmp 26) (.tmp 27)), 3, none, some (nb + 30)⟩,
         ⟨some 10, (.assign (.tmp 29)), 3, none, some (nb + 10)⟩,
         ⟨some 11, (.assign (.tmp 30)), 3, none, some (nb + 11)⟩]) (
       .seq (
       .seq (
       .ops [⟨some 31, (.load 4 (.tmp 7)), 4, none, some (nb + 31)⟩,
         ⟨some 32, (.unOp .not 4 (.tmp 31)), 4, none, some (nb + 32)⟩]) (
       .cond (.tmp 32) (
        .ops [⟨some 33, (.move (.tmp 10)), 3, none, some (nb + 33)⟩,
          ⟨some 34, (.move (.tmp 11)), 3, none, some (nb + 34)⟩,
          ⟨some 35, (.move (.tmp 11)), 3, none, some (nb + 35)⟩,
          ⟨some 36, (.build 38 #[(0, (.tmp 34)), (1, (.tmp 35))]), 38, none, some (nb + 36)⟩,
          ⟨some 37, (.indexAddr 83 (.tmp 6) (.tmp 33)), 0, none, some (nb + 37)⟩,
          ⟨none, (.store 38 (.tmp 37) (.tmp 36)), 0, none, none⟩]) (
        .skip))) (
       .ops [⟨some 38, (.move (.tmp 10)), 3, none, some (nb + 38)⟩,
         ⟨some 39, (.move (.tmp 10)), 3, none, some (nb + 39)⟩,
         ⟨some 40, (.indexAddr 83 (.tmp 6) (.tmp 39)), 0, none, some (nb + 40)⟩,
         ⟨some 41, (.fieldAddr 38 (.tmp 40) 0), 0, none, some (nb + 41)⟩,
         ⟨some 42, (.load 3 (.tmp 41)), 3, none, some (nb + 42)⟩,
         ⟨some 43, (.move (.tmp 11)), 3, none, some (nb + 43)⟩,
         ⟨some 44, (.call { callee := .builtin .min, args := #[(.tmp 42), (.tmp 43)], argTypes := #[3, 3] }), 3, none, some (nb + 44)⟩,
         ⟨some 45, (.move (.tmp 10)), 3, none, some (nb + 45)⟩,
         ⟨some 46, (.indexAddr 83 (.tmp 6) (.tmp 45)), 0, none, some (nb + 46)⟩,
         ⟨some 47, (.fieldAddr 38 (.tmp 46) 1), 0, none, some (nb + 47)⟩,
         ⟨some 48, (.load 3 (.tmp 47)), 3, none, some (nb + 48)⟩,
         ⟨some 49, (.move (.tmp 11)), 3, none, some (nb + 49)⟩,
         ⟨some 50, (.call { callee := .builtin .max, args := #[(.tmp 48), (.tmp 49)], argTypes := #[3, 3] }), 3, none, some (nb + 50)⟩,
         ⟨some 51, (.build 38 #[(0, (.tmp 44)), (1, (.tmp 50))]), 38, none, some (nb + 51)⟩,
         ⟨some 52, (.indexAddr 83 (.tmp 6) (.tmp 38)), 0, none, some (nb + 52)⟩,
         ⟨none, (.store 38 (.tmp 52) (.tmp 51)), 0, none, none⟩])))) (
      .ops [⟨some 53, (.binOp .add 3 (.tmp 27) (.const (.int .i64 1)) 3), 3, none, some (nb + 53)⟩,
        ⟨some 27, (.move (.tmp 53)), 3, none, some (nb + 27)⟩]))))))) (
    .ops [⟨none, (.store 4 (.tmp 7) (.const (.bool true))), 0, none, none⟩]))))))) (
 .seq (
 .opsD [⟨some 54, (.load 83 (.tmp 6)), 83, none, some (nb + 54)⟩,
   ⟨some 55, (.load 4 (.tmp 7)), 4, none, some (nb + 55)⟩,
   ⟨none, (.store 83 (.tmp 6) (.tmp 54)), 0, none, none⟩,
   ⟨none, (.store 4 (.tmp 7) (.tmp 55)), 0, none, none⟩] [(1, 2)]) (
 .ret)))
@[go_sem] theorem rs33 : Go.Proofs.Try.f33.results.toList = [.cell 6 83, .cell 7 4] := by kernel_rfl
theorem en33 : Enters Q 33 := enters_of Go.Proofs.Try.func33 rfl (by kernel_rfl)
theorem k33 (nb : Nat) : sk nb Go.Proofs.Try.f33.ntmps (Go.Proofs.Try.f33.body.getD .skip) = some (c33 nb) := by kernel_rfl
/-- (smalto/ledger.book).odd -/
noncomputable def c34 (nb : Nat) : SC :=
 .seq (
 .ops [⟨some 2, (.box 78 (.tmp 0)), 0, none, some (nb + 2)⟩,
   ⟨some 4, (.assign (.const (.slice none 0 0))), 29, none, some (nb + 4)⟩]) (
 .seq (
 .seq (
 .ops [⟨some 9, (.move (.tmp 1)), 40, none, some (nb + 9)⟩,
   ⟨some 10, (.call { callee := .builtin .len, args := #[(.tmp 9)], argTypes := #[40] }), 3, none, some (nb + 10)⟩,
   ⟨some 11, (.move (.const (.int .i64 0))), 3, none, some (nb + 11)⟩]) (
 .block 0 (
  .loop (
   .seq (
   .ops [⟨some 12, (.binOp .lss 3 (.tmp 11) (.tmp 10) 3), 0, none, some (nb + 12)⟩]) (
   .seq (
   .cond (.tmp 12) (
    .skip) (
    .exit 0)) (
   .seq (
   .block 1 (
    .seq (
    .ops [⟨some 13, (.move (.tmp 11)), 3, none, some (nb + 13)⟩,
      ⟨some 14, (.indexAddr 40 (.tmp 9) (.tmp 11)), 0, none, some (nb + 14)⟩,
      ⟨some 15, (.load 38 (.tmp 14)), 38, none, some (nb + 15)⟩,
      ⟨some 6, (.alloc 38), 0, none, some (nb + 6)⟩,
      ⟨some 5, (.assign (.tmp 13)), 3, none, some (nb + 5)⟩,
      ⟨none, (.store 38 (.tmp 6) (.tmp 15)), 0, none, none⟩]) (
    .seq (
    .ops [⟨some 17, (.load 78 (.tmp 2)), 78, none, some (nb + 17)⟩,
      ⟨some 18, (.move (.tmp 5)), 3, none, some (nb + 18)⟩,
      ⟨some 19, (.load 38 (.tmp 6)), 38, none, some (nb + 19)⟩,
      ⟨some 20, (.call { callee := .value (.func 33), args := #[(.tmp 17), (.tmp 18), (.tmp 19)], argTypes := #[78, 3, 38] }), 101, none, some (nb + 20)⟩,
      ⟨some 16, (.move (.tmp 20)), 101, none, some (nb + 16)⟩,
      ⟨some 21, (.extract (.tmp 16) 0), 83, none, some (nb + 21)⟩,
      ⟨some 22, (.extract (.tmp 16) 1), 4, none, some (nb + 22)⟩,
      ⟨some 7, (.alloc 83), 0, none, some (nb + 7)⟩,
      ⟨none, (.store 83 (.tmp 7) (.tmp 21)), 0, none, none⟩,
      ⟨some 8, (.assign (.tmp 22)), 4, none, some (nb + 8)⟩]) (
    .seq (
    .ops [⟨some 23, (.move (.tmp 8)), 4, none, some (nb + 23)⟩,
      ⟨some 24, (.unOp .not 4 (.tmp 23)), 4, none, some (nb + 24)⟩]) (
    .cond (.tmp 24) (
     .ops [⟨some 25, (.move (.tmp 4)), 29, none, some (nb + 25)⟩,
       ⟨some 26, (.move (.tmp 5)), 3, none, some (nb + 26)⟩,
       ⟨some 27, (.buildSlice 29 1 #[(0, (.tmp 26))]), 29, none, some (nb + 27)⟩,
       ⟨some 28, (.call { callee := .builtin .append, args := #[(.tmp 25), (.tmp 27)], argTypes := #[29, 29] }), 29, none, some (nb + 28)⟩,
       ⟨some 4, (.assign (.tmp 28)), 29, none, some (nb + 4)⟩]) (
     .skip)))))) (
   .ops [⟨some 29, (.binOp .add 3 (.tmp 11) (.const (.int .i64 1)) 3), 3, none, some (nb + 29)⟩,
     ⟨some 11, (.move (.tmp 29)), 3, none, some (nb + 11)⟩]))))))) (
 .seq (
 .ops [⟨some 30, (.move (.tmp 4)), 29, none, some (nb + 30)⟩,
   ⟨some 4, (.assign (.tmp 30)), 29, none, some (nb + 4)⟩]) (
 .ret)))
@[go_sem] theorem rs34 : Go.Proofs.Try.f34.results.toList = [.tmp 4] := by kernel_rfl
theorem en34 : Enters Q 34 := enters_of Go.Proofs.Try.func34 rfl (by kernel_rfl)
theorem k34 (nb : Nat) : sk nb Go.Proofs.Try.f34.ntmps (Go.Proofs.Try.f34.body.getD .skip) = some (c34 nb) := by kernel_rfl
/-- smalto/coat.open -/
noncomputable def c35 (nb : Nat) : SC :=
 .seq (
 .ops [⟨some 1, (.box 27 (.tmp 0)), 0, none, some (nb + 1)⟩,
   ⟨some 2, (.alloc 71), 0, none, some (nb + 2)⟩,
   ⟨some 3, (.assign (.const (.int .i64 0))), 41, none, some (nb + 3)⟩]) (
 .seq (
 .opsD [⟨some 4, (.load 27 (.tmp 1)), 27, none, some (nb + 4)⟩,
   ⟨some 5, (.build 71 #[(0, (.tmp 4))]), 71, none, some (nb + 5)⟩,
   ⟨some 6, (.load 27 (.tmp 1)), 27, none, some (nb + 6)⟩,
   ⟨some 7, (.call { callee := .value (.func 56), args := #[(.tmp 6)], argTypes := #[27] }), 41, none, some (nb + 7)⟩,
   ⟨none, (.store 71 (.tmp 2) (.tmp 5)), 0, none, none⟩,
   ⟨some 3, (.assign (.tmp 7)), 41, none, some (nb + 3)⟩] [(0, 3)]) (
 .ret))
@[go_sem] theorem rs35 : Go.Proofs.Try.f35.results.toList = [.cell 2 71, .tmp 3] := by kernel_rfl
theorem en35 : Enters Q 35 := enters_of Go.Proofs.Try.func35 rfl (by kernel_rfl)
theorem k35 (nb : Nat) : sk nb Go.Proofs.Try.f35.ntmps (Go.Proofs.Try.f35.body.getD .skip) = some (c35 nb) := by kernel_rfl
/-- smalto/coat.jobs$1 -/
noncomputable def c36 (nb : Nat) : SC :=
 .seq (
 .ops [⟨some 2, (.box 54 (.tmp 0)), 0, none, some (nb + 2)⟩,
   ⟨some 3, (.assign (.const (.bool false))), 4, none, some (nb + 3)⟩]) (
 .seq (
 .ops [⟨some 4, (.fieldAddr 54 (.tmp 2) 0), 0, none, some (nb + 4)⟩,
   ⟨some 5, (.load 3 (.tmp 4)), 3, none, some (nb + 5)⟩,
   ⟨some 6, (.buildSlice 29 1 #[(0, (.tmp 5))]), 29, none, some (nb + 6)⟩,
   ⟨some 7, (.call { callee := .value (.func 19), args := #[(.const (.int .i64 1)), (.const (.int .i64 200)), (.tmp 6)], argTypes := #[3, 3, 29] }), 4, none, some (nb + 7)⟩,
   ⟨some 8, (.unOp .not 4 (.tmp 7)), 4, none, some (nb + 8)⟩,
   ⟨some 9, (.move (.tmp 8)), 4, none, some (nb + 9)⟩,
   ⟨some 10, (.load 71 (.tmp 1)), 71, some (9, false), some (nb + 10)⟩,
   ⟨some 11, (.fieldAddr 54 (.tmp 2) 1), 0, some (9, false), some (nb + 11)⟩,
   ⟨some 12, (.load 29 (.tmp 11)), 29, some (9, false), some (nb + 12)⟩,
   ⟨some 13, (.call { callee := .value (.func 37), args := #[(.tmp 10), (.tmp 12)], argTypes := #[71, 29] }), 4, some (9, false), some (nb + 13)⟩,
   ⟨some 14, (.unOp .not 4 (.tmp 13)), 4, some (9, false), some (nb + 14)⟩,
   ⟨some 15, (.pick (.tmp 9) (.const (.bool true)) (.tmp 14)), 4, none, some (nb + 15)⟩,
   ⟨some 3, (.assign (.tmp 15)), 4, none, some (nb + 3)⟩]) (
 .ret))
@[go_sem] theorem rs36 : Go.Proofs.Try.f36.results.toList = [.tmp 3] := by kernel_rfl
theorem en36 : Enters Q 36 := enters_of Go.Proofs.Try.func36 rfl (by kernel_rfl)
theorem k36 (nb : Nat) : sk nb Go.Proofs.Try.f36.ntmps (Go.Proofs.Try.f36.body.getD .skip) = some (c36 nb) := by kernel_rfl
/-- (smalto/coat.works).areCoats -/
noncomputable def c37 (nb : Nat) : SC :=
 .seq (
 .ops [⟨some 2, (.box 71 (.tmp 0)), 0, none, some (nb + 2)⟩,
   ⟨some 4, (.assign (.const (.bool false))), 4, none, some (nb + 4)⟩]) (
 .seq (
 .ops [⟨some 5, (.move (.tmp 1)), 29, none, some (nb + 5)⟩,
   ⟨some 6, (.call { callee := .builtin .len, args := #[(.tmp 5)], argTypes := #[29] }), 3, none, some (nb + 6)⟩,
   ⟨some 7, (.binOp .leq 3 (.tmp 6) (.const (.int .i64 8)) 3), 4, none, some (nb + 7)⟩,
   ⟨some 8, (.move (.tmp 7)), 4, none, some (nb + 8)⟩,
   ⟨some 9, (.fieldAddr 71 (.tmp 2) 0), 0, some (8, true), some (nb + 9)⟩,
   ⟨some 10, (.fieldAddr 27 (.tmp 9) 0), 0, some (8, true), some (nb + 10)⟩,
   ⟨some 11, (.load 25 (.tmp 10)), 25, some (8, true), some (nb + 11)⟩,
   ⟨some 12, (.call { callee := .builtin .len, args := #[(.tmp 11)], argTypes := #[25] }), 3, some (8, true), some (nb + 12)⟩,
   ⟨some 13, (.binOp .sub 3 (.tmp 12) (.const (.int .i64 1)) 3), 3, some (8, true), some (nb + 13)⟩,
   ⟨some 14, (.move (.tmp 1)), 29, some (8, true), some (nb + 14)⟩,
   ⟨some 15, (.call { callee := .value (.func 19), args := #[(.const (.int .i64 0)), (.tmp 13), (.tmp 14)], argTypes := #[3, 3, 29] }), 4, some (8, true), some (nb + 15)⟩,
   ⟨some 16, (.pick (.tmp 8) (.tmp 15) (.const (.bool false))), 4, none, some (nb + 16)⟩,
   ⟨some 4, (.assign (.tmp 16)), 4, none, some (nb + 4)⟩]) (
 .ret))
@[go_sem] theorem rs37 : Go.Proofs.Try.f37.results.toList = [.tmp 4] := by kernel_rfl
theorem en37 : Enters Q 37 := enters_of Go.Proofs.Try.func37 rfl (by kernel_rfl)
theorem k37 (nb : Nat) : sk nb Go.Proofs.Try.f37.ntmps (Go.Proofs.Try.f37.body.getD .skip) = some (c37 nb) := by kernel_rfl
/-- slices.ContainsFunc[[]smalto/api.CoatJob,smalto/api.CoatJob] -/
noncomputable def c38 (nb : Nat) : SC :=
 .seq (
 .ops [⟨some 4, (.assign (.const (.bool false))), 4, none, some (nb + 4)⟩]) (
 .seq (
 .ops [⟨some 5, (.move (.tmp 0)), 28, none, some (nb + 5)⟩,
   ⟨some 6, (.move (.tmp 1)), 109, none, some (nb + 6)⟩,
   ⟨some 7, (.call { callee := .value (.func 57), args := #[(.tmp 5), (.tmp 6)], argTypes := #[28, 109] }), 3, none, some (nb + 7)⟩,
   ⟨some 8, (.binOp .geq 3 (.tmp 7) (.const (.int .i64 0)) 3), 4, none, some (nb + 8)⟩,
   ⟨some 4, (.assign (.tmp 8)), 4, none, some (nb + 4)⟩]) (
 .ret))
@[go_sem] theorem rs38 : Go.Proofs.Try.f38.results.toList = [.tmp 4] := by kernel_rfl
theorem en38 : Enters Q 38 := enters_of Go.Proofs.Try.func38 rfl (by kernel_rfl)
theorem k38 (nb : Nat) : sk nb Go.Proofs.Try.f38.ntmps (Go.Proofs.Try.f38.body.getD .skip) = some (c38 nb) := by kernel_rfl
/-- smalto/coat.count -/
noncomputable def c39 (nb : Nat) : SC :=
 .seq (
 .ops [⟨some 2, (.alloc 112), 0, none, some (nb + 2)⟩]) (
 .seq (
 .seq (
 .ops [⟨some 5, (.move (.tmp 0)), 29, none, some (nb + 5)⟩,
   ⟨some 6, (.call { callee := .builtin .len, args := #[(.tmp 5)], argTypes := #[29] }), 3, none, some (nb + 6)⟩,
   ⟨some 7, (.move (.const (.int .i64 0))), 3, none, some (nb + 7)⟩]) (
 .block 0 (
  .loop (
   .seq (
   .ops [⟨some 8, (.binOp .lss 3 (.tmp 7) (.tmp 6) 3), 0, none, some (nb + 8)⟩]) (
   .seq (
   .cond (.tmp 8) (
    .skip) (
    .exit 0)) (
   .seq (
   .block 1 (
    .seq (
    .ops [⟨some 9, (.indexAddr 29 (.tmp 5) (.tmp 7)), 0, none, some (nb + 9)⟩,
      ⟨some 10, (.load 3 (.tmp 9)), 3, none, some (nb + 10)⟩,
      ⟨some 4, (.assign (.tmp 10)), 3, none, some (nb + 4)⟩]) (
    .ops [⟨some 11, (.move (.tmp 4)), 3, none, some (nb + 11)⟩,
      ⟨some 12, (.indexAddr 112 (.tmp 2) (.tmp 11)), 0, none, some (nb + 12)⟩,
      ⟨some 13, (.load 3 (.tmp 12)), 3, none, some (nb + 13)⟩,
      ⟨some 14, (.binOp .add 3 (.tmp 13) (.const (.int .i64 1)) 3), 3, none, some (nb + 14)⟩,
      ⟨some 15, (.indexAddr 112 (.tmp 2) (.tmp 11)), 0, none, some (nb + 15)⟩,
      ⟨none, (.store 3 (.tmp 15) (.tmp 14)), 0, none, none⟩]))) (
   .ops [⟨some 16, (.binOp .add 3 (.tmp 7) (.const (.int .i64 1)) 3), 3, none, some (nb + 16)⟩,
     ⟨some 7, (.move (.tmp 16)), 3, none, some (nb + 7)⟩]))))))) (
 .seq (
 .ops [⟨some 17, (.load 112 (.tmp 2)), 112, none, some (nb + 17)⟩,
   ⟨none, (.store 112 (.tmp 2) (.tmp 17)), 0, none, none⟩]) (
 .ret)))
@[go_sem] theorem rs39 : Go.Proofs.Try.f39.results.toList = [.cell 2 112] := by kernel_rfl
theorem en39 : Enters Q 39 := enters_of Go.Proofs.Try.func39 rfl (by kernel_rfl)
theorem k39 (nb : Nat) : sk nb Go.Proofs.Try.f39.ntmps (Go.Proofs.Try.f39.body.getD .skip) = some (c39 nb) := by kernel_rfl
/-- slices.ContainsFunc[[]int,int] -/
noncomputable def c40 (nb : Nat) : SC :=
 .seq (
 .ops [⟨some 4, (.assign (.const (.bool false))), 4, none, some (nb + 4)⟩]) (
 .seq (
 .ops [⟨some 5, (.move (.tmp 0)), 29, none, some (nb + 5)⟩,
   ⟨some 6, (.move (.tmp 1)), 115, none, some (nb + 6)⟩,
   ⟨some 7, (.call { callee := .value (.func 58), args := #[(.tmp 5), (.tmp 6)], argTypes := #[29, 115] }), 3, none, some (nb + 7)⟩,
   ⟨some 8, (.binOp .geq 3 (.tmp 7) (.const (.int .i64 0)) 3), 4, none, some (nb + 8)⟩,
   ⟨some 4, (.assign (.tmp 8)), 4, none, some (nb + 4)⟩]) (
 .ret))
@[go_sem] theorem rs40 : Go.Proofs.Try.f40.results.toList = [.tmp 4] := by kernel_rfl
theorem en40 : Enters Q 40 := enters_of Go.Proofs.Try.func40 rfl (by kernel_rfl)
theorem k40 (nb : Nat) : sk nb Go.Proofs.Try.f40.ntmps (Go.Proofs.Try.f40.body.getD .skip) = some (c40 nb) := by kernel_rfl
/-- smalto/coat.within$1 -/
noncomputable def c41 (nb : Nat) : SC :=
 .seq (
 .ops [⟨some 4, (.assign (.const (.bool false))), 4, none, some (nb + 4)⟩]) (
 .seq (
 .ops [⟨some 5, (.move (.tmp 0)), 3, none, some (nb + 5)⟩,
   ⟨some 6, (.load 3 (.tmp 1)), 3, none, some (nb + 6)⟩,
   ⟨some 7, (.binOp .lss 3 (.tmp 5) (.tmp 6) 3), 4, none, some (nb + 7)⟩,
   ⟨some 8, (.move (.tmp 7)), 4, none, some (nb + 8)⟩,
   ⟨some 9, (.move (.tmp 0)), 3, some (8, false), some (nb + 9)⟩,
   ⟨some 10, (.load 3 (.tmp 2)), 3, some (8, false), some (nb + 10)⟩,
   ⟨some 11, (.binOp .gtr 3 (.tmp 9) (.tmp 10) 3), 4, some (8, false), some (nb + 11)⟩,
   ⟨some 12, (.pick (.tmp 8) (.const (.bool true)) (.tmp 11)), 4, none, some (nb + 12)⟩,
   ⟨some 4, (.assign (.tmp 12)), 4, none, some (nb + 4)⟩]) (
 .ret))
@[go_sem] theorem rs41 : Go.Proofs.Try.f41.results.toList = [.tmp 4] := by kernel_rfl
theorem en41 : Enters Q 41 := enters_of Go.Proofs.Try.func41 rfl (by kernel_rfl)
theorem k41 (nb : Nat) : sk nb Go.Proofs.Try.f41.ntmps (Go.Proofs.Try.f41.body.getD .skip) = some (c41 nb) := by kernel_rfl
/-- smalto/ledger.Check -/
noncomputable def c42 (nb : Nat) : SC :=
 .seq (
 .ops [⟨some 1, (.box 34 (.tmp 0)), 0, none, some (nb + 1)⟩,
   ⟨some 2, (.assign (.const (.int .i64 0))), 41, none, some (nb + 2)⟩]) (
 .seq (
 .ops [⟨some 8, (.fieldAddr 34 (.tmp 1) 0), 0, none, some (nb + 8)⟩,
   ⟨some 9, (.load 29 (.tmp 8)), 29, none, some (nb + 9)⟩,
   ⟨some 10, (.call { callee := .builtin .len, args := #[(.tmp 9)], argTypes := #[29] }), 3, none, some (nb + 10)⟩,
   ⟨some 3, (.alloc 3), 0, none, some (nb + 3)⟩,
   ⟨none, (.store 3 (.tmp 3) (.tmp 10)), 0, none, none⟩]) (
 .seq (
 .ops [⟨some 11, (.makeFunc (.func 59) #[] #[(.tmp 3)]), 132, none, some (nb + 11)⟩,
   ⟨some 4, (.assign (.tmp 11)), 132, none, some (nb + 4)⟩]) (
 .seq (
 .ops [⟨some 5, (.alloc 120), 0, none, some (nb + 5)⟩,
   ⟨none, (.store 120 (.tmp 5) (.func 60)), 0, none, none⟩]) (
 .seq (
 .ops [⟨some 12, (.makeFunc (.func 61) #[] #[(.tmp 3), (.tmp 5)]), 133, none, some (nb + 12)⟩,
   ⟨some 6, (.assign (.tmp 12)), 133, none, some (nb + 6)⟩]) (
 .seq (
 .ops [⟨some 13, (.makeFunc (.func 62) #[] #[(.tmp 1)]), 134, none, some (nb + 13)⟩,
   ⟨some 7, (.assign (.tmp 13)), 134, none, some (nb + 7)⟩]) (
 .seq (
 .block 0 (
  .seq (
  .seq (
  .ops [⟨some 15, (.load 3 (.tmp 3)), 3, none, some (nb + 15)⟩,
    ⟨some 16, (.buildSlice 29 1 #[(0, (.tmp 15))]), 29, none, some (nb + 16)⟩,
    ⟨some 17, (.call { callee := .value (.func 27), args := #[(.const (.int .i64 1)), (.const (.int .i64 4)), (.tmp 16)], argTypes := #[3, 3, 29] }), 4, none, some (nb + 17)⟩,
    ⟨some 18, (.unOp .not 4 (.tmp 17)), 4, none, some (nb + 18)⟩,
    ⟨some 14, (.assign (.tmp 18)), 4, none, some (nb + 14)⟩]) (
  .cond (.tmp 14) (
   .skip) (
   .ops [⟨some 19, (.fieldAddr 34 (.tmp 1) 0), 0, none, some (nb + 19)⟩,
     ⟨some 20, (.load 29 (.tmp 19)), 29, none, some (nb + 20)⟩,
     ⟨some 21, (.call { callee := .value (.func 27), args := #[(.const (.int .i64 0)), (.const (.int .i64 10000)), (.tmp 20)], argTypes := #[3, 3, 29] }), 4, none, some (nb + 21)⟩,
     ⟨some 22, (.unOp .not 4 (.tmp 21)), 4, none, some (nb + 22)⟩,
     ⟨some 14, (.assign (.tmp 22)), 4, none, some (nb + 14)⟩]))) (
  .cond (.tmp 14) (
   .seq (
   .ops [⟨some 2, (.assign (.const (.int .i64 4))), 41, none, some (nb + 2)⟩]) (
   .ret)) (
   .seq (
   .seq (
   .ops [⟨some 24, (.fieldAddr 34 (.tmp 1) 1), 0, none, some (nb + 24)⟩,
     ⟨some 25, (.load 30 (.tmp 24)), 30, none, some (nb + 25)⟩,
     ⟨some 26, (.call { callee := .builtin .len, args := #[(.tmp 25)], argTypes := #[30] }), 3, none, some (nb + 26)⟩,
     ⟨some 27, (.binOp .gtr 3 (.tmp 26) (.const (.int .i64 12)) 3), 4, none, some (nb + 27)⟩,
     ⟨some 23, (.assign (.tmp 27)), 4, none, some (nb + 23)⟩]) (
   .cond (.tmp 23) (
    .skip) (
    .seq (
    .ops [⟨some 28, (.fieldAddr 34 (.tmp 1) 2), 0, none, some (nb + 28)⟩,
      ⟨some 29, (.load 31 (.tmp 28)), 31, none, some (nb + 29)⟩,
      ⟨some 30, (.call { callee := .builtin .len, args := #[(.tmp 29)], argTypes := #[31] }), 3, none, some (nb + 30)⟩,
      ⟨some 31, (.binOp .gtr 3 (.tmp 30) (.const (.int .i64 3)) 3), 4, none, some (nb + 31)⟩,
      ⟨some 23, (.assign (.tmp 31)), 4, none, some (nb + 23)⟩]) (
    .cond (.tmp 23) (
     .skip) (
     .ops [⟨some 32, (.fieldAddr 34 (.tmp 1) 3), 0, none, some (nb + 32)⟩,
       ⟨some 33, (.load 32 (.tmp 32)), 32, none, some (nb + 33)⟩,
       ⟨some 34, (.call { callee := .builtin .len, args := #[(.tmp 33)], argTypes := #[32] }), 3, none, some (nb + 34)⟩,
       ⟨some 35, (.binOp .gtr 3 (.tmp 34) (.const (.int .i64 8)) 3), 4, none, some (nb + 35)⟩,
       ⟨some 23, (.assign (.tmp 35)), 4, none, some (nb + 23)⟩]))))) (
   .cond (.tmp 23) (
    .seq (
    .ops [⟨some 2, (.assign (.const (.int .i64 5))), 41, none, some (nb + 2)⟩]) (
    .ret)) (
    .seq (
    .seq (
    .ops [⟨some 37, (.fieldAddr 34 (.tmp 1) 1), 0, none, some (nb + 37)⟩,
      ⟨some 38, (.load 30 (.tmp 37)), 30, none, some (nb + 38)⟩,
      ⟨some 39, (.move (.tmp 4)), 132, none, some (nb + 39)⟩,
      ⟨some 40, (.call { callee := .value (.func 63), args := #[(.tmp 38), (.tmp 39)], argTypes := #[30, 132] }), 4, none, some (nb + 40)⟩,
      ⟨some 36, (.assign (.tmp 40)), 4, none, some (nb + 36)⟩]) (
    .cond (.tmp 36) (
     .skip) (
     .seq (
     .ops [⟨some 41, (.fieldAddr 34 (.tmp 1) 2), 0, none, some (nb + 41)⟩,
       ⟨some 42, (.load 31 (.tmp 41)), 31, none, some (nb + 42)⟩,
       ⟨some 43, (.move (.tmp 6)), 133, none, some (nb + 43)⟩,
       ⟨some 44, (.call { callee := .value (.func 64), args := #[(.tmp 42), (.tmp 43)], argTypes := #[31, 133] }), 4, none, some (nb + 44)⟩,
       ⟨some 36, (.assign (.tmp 44)), 4, none, some (nb + 36)⟩]) (
     .cond (.tmp 36) (
      .skip) (
      .ops [⟨some 45, (.fieldAddr 34 (.tmp 1) 3), 0, none, some (nb + 45)⟩,
        ⟨some 46, (.load 32 (.tmp 45)), 32, none, some (nb + 46)⟩,
        ⟨some 47, (.move (.tmp 7)), 134, none, some (nb + 47)⟩,
        ⟨some 48, (.call { callee := .value (.func 65), args := #[(.tmp 46), (.tmp 47)], argTypes := #[32, 134] }), 4, none, some (nb + 48)⟩,
        ⟨some 36, (.assign (.tmp 48)), 4, none, some (nb + 36)⟩]))))) (
    .cond (.tmp 36) (
     .seq (
     .ops [⟨some 2, (.assign (.const (.int .i64 2))), 41, none, some (nb + 2)⟩]) (
     .ret)) (
     .skip)))))))) (
 .seq (
 .ops [⟨some 2, (.assign (.const (.int .i64 0))), 41, none, some (nb + 2)⟩]) (
 .ret))))))))
@[go_sem] theorem rs42 : Go.Proofs.Try.f42.results.toList = [.tmp 2] := by kernel_rfl
theorem en42 : Enters Q 42 := enters_of Go.Proofs.Try.func42 rfl (by kernel_rfl)
theorem k42 (nb : Nat) : sk nb Go.Proofs.Try.f42.ntmps (Go.Proofs.Try.f42.body.getD .skip) = some (c42 nb) := by kernel_rfl
/-- slices.ContainsFunc[[]smalto/api.Span,smalto/api.Span] -/
noncomputable def c43 (nb : Nat) : SC :=
 .seq (
 .ops [⟨some 4, (.assign (.const (.bool false))), 4, none, some (nb + 4)⟩]) (
 .seq (
 .ops [⟨some 5, (.move (.tmp 0)), 40, none, some (nb + 5)⟩,
   ⟨some 6, (.move (.tmp 1)), 120, none, some (nb + 6)⟩,
   ⟨some 7, (.call { callee := .value (.func 66), args := #[(.tmp 5), (.tmp 6)], argTypes := #[40, 120] }), 3, none, some (nb + 7)⟩,
   ⟨some 8, (.binOp .geq 3 (.tmp 7) (.const (.int .i64 0)) 3), 4, none, some (nb + 8)⟩,
   ⟨some 4, (.assign (.tmp 8)), 4, none, some (nb + 4)⟩]) (
 .ret))
@[go_sem] theorem rs43 : Go.Proofs.Try.f43.results.toList = [.tmp 4] := by kernel_rfl
theorem en43 : Enters Q 43 := enters_of Go.Proofs.Try.func43 rfl (by kernel_rfl)
theorem k43 (nb : Nat) : sk nb Go.Proofs.Try.f43.ntmps (Go.Proofs.Try.f43.body.getD .skip) = some (c43 nb) := by kernel_rfl
/-- smalto/ledger.open$1 -/
noncomputable def c44 (nb : Nat) : SC :=
 .seq (
 .ops [⟨some 1, (.box 38 (.tmp 0)), 0, none, some (nb + 1)⟩,
   ⟨some 2, (.assign (.const (.bool false))), 4, none, some (nb + 2)⟩]) (
 .seq (
 .ops [⟨some 3, (.load 38 (.tmp 1)), 38, none, some (nb + 3)⟩,
   ⟨some 4, (.call { callee := .value (.func 45), args := #[(.const (.int .i64 0)), (.const (.int .i64 100000)), (.tmp 3)], argTypes := #[3, 3, 38] }), 4, none, some (nb + 4)⟩,
   ⟨some 5, (.unOp .not 4 (.tmp 4)), 4, none, some (nb + 5)⟩,
   ⟨some 2, (.assign (.tmp 5)), 4, none, some (nb + 2)⟩]) (
 .ret))
@[go_sem] theorem rs44 : Go.Proofs.Try.f44.results.toList = [.tmp 2] := by kernel_rfl
theorem en44 : Enters Q 44 := enters_of Go.Proofs.Try.func44 rfl (by kernel_rfl)
theorem k44 (nb : Nat) : sk nb Go.Proofs.Try.f44.ntmps (Go.Proofs.Try.f44.body.getD .skip) = some (c44 nb) := by kernel_rfl
end S12

