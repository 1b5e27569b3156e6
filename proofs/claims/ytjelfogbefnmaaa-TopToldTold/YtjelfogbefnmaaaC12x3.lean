/- A part of the proof: C12x3. -/
import Derived.Test.YtjelfogbefnmaaaF12
set_option linter.unusedVariables false
set_option linter.unusedSimpArgs false
set_option maxRecDepth 20000
namespace S12
open Go Abs
/-- slices.symMergeCmpFunc[int] -/
noncomputable def c77 (nb : Nat) : SC :=
 .seq (
 .seq (
 .ops [⟨some 25, (.move (.tmp 2)), 3, none, some (nb + 25)⟩,
   ⟨some 26, (.move (.tmp 1)), 3, none, some (nb + 26)⟩,
   ⟨some 27, (.binOp .sub 3 (.tmp 25) (.tmp 26) 3), 3, none, some (nb + 27)⟩,
   ⟨some 28, (.binOp .eql 3 (.tmp 27) (.const (.int .i64 1)) 3), 4, none, some (nb + 28)⟩]) (
 .cond (.tmp 28) (
  .seq (
  .ops [⟨some 29, (.move (.tmp 2)), 3, none, some (nb + 29)⟩,
    ⟨some 10, (.assign (.tmp 29)), 3, none, some (nb + 10)⟩]) (
  .seq (
  .ops [⟨some 30, (.move (.tmp 3)), 3, none, some (nb + 30)⟩,
    ⟨some 11, (.assign (.tmp 30)), 3, none, some (nb + 11)⟩]) (
  .seq (
  .block 0 (
   .loop (
    .seq (
    .seq (
    .ops [⟨some 31, (.move (.tmp 10)), 3, none, some (nb + 31)⟩,
      ⟨some 32, (.move (.tmp 11)), 3, none, some (nb + 32)⟩,
      ⟨some 33, (.binOp .lss 3 (.tmp 31) (.tmp 32) 3), 4, none, some (nb + 33)⟩]) (
    .cond (.tmp 33) (
     .skip) (
     .exit 0))) (
    .block 1 (
     .seq (
     .ops [⟨some 34, (.move (.tmp 10)), 3, none, some (nb + 34)⟩,
       ⟨some 35, (.move (.tmp 11)), 3, none, some (nb + 35)⟩,
       ⟨some 36, (.binOp .add 3 (.tmp 34) (.tmp 35) 3), 3, none, some (nb + 36)⟩,
       ⟨some 37, (.convert 3 151 (.tmp 36)), 151, none, some (nb + 37)⟩,
       ⟨some 38, (.binOp .shr 151 (.tmp 37) (.const (.int .u64 1)) 151), 151, none, some (nb + 38)⟩,
       ⟨some 39, (.convert 151 3 (.tmp 38)), 3, none, some (nb + 39)⟩,
       ⟨some 12, (.assign (.tmp 39)), 3, none, some (nb + 12)⟩]) (
     .seq (
     .ops [⟨some 40, (.move (.tmp 4)), 124, none, some (nb + 40)⟩,
       ⟨some 41, (.move (.tmp 0)), 29, none, some (nb + 41)⟩,
       ⟨some 42, (.move (.tmp 12)), 3, none, some (nb + 42)⟩,
       ⟨some 43, (.indexAddr 29 (.tmp 41) (.tmp 42)), 0, none, some (nb + 43)⟩,
       ⟨some 44, (.load 3 (.tmp 43)), 3, none, some (nb + 44)⟩,
       ⟨some 45, (.move (.tmp 0)), 29, none, some (nb + 45)⟩,
       ⟨some 46, (.move (.tmp 1)), 3, none, some (nb + 46)⟩,
       ⟨some 47, (.indexAddr 29 (.tmp 45) (.tmp 46)), 0, none, some (nb + 47)⟩,
       ⟨some 48, (.load 3 (.tmp 47)), 3, none, some (nb + 48)⟩,
       ⟨some 49, (.call { callee := .value (.tmp 40), args := #[(.tmp 44), (.tmp 48)], argTypes := #[3, 3] }), 3, none, some (nb + 49)⟩,
       ⟨some 50, (.binOp .lss 3 (.tmp 49) (.const (.int .i64 0)) 3), 4, none, some (nb + 50)⟩]) (
     .cond (.tmp 50) (
      .ops [⟨some 51, (.move (.tmp 12)), 3, none, some (nb + 51)⟩,
        ⟨some 52, (.binOp .add 3 (.tmp 51) (.const (.int .i64 1)) 3), 3, none, some (nb + 52)⟩,
        ⟨some 10, (.assign (.tmp 52)), 3, none, some (nb + 10)⟩]) (
      .ops [⟨some 53, (.move (.tmp 12)), 3, none, some (nb + 53)⟩,
        ⟨some 11, (.assign (.tmp 53)), 3, none, some (nb + 11)⟩])))))))) (
  .seq (
  .seq (
  .ops [⟨some 54, (.move (.tmp 1)), 3, none, some (nb + 54)⟩,
    ⟨some 13, (.assign (.tmp 54)), 3, none, some (nb + 13)⟩]) (
  .block 2 (
   .loop (
    .seq (
    .seq (
    .ops [⟨some 55, (.move (.tmp 13)), 3, none, some (nb + 55)⟩,
      ⟨some 56, (.move (.tmp 10)), 3, none, some (nb + 56)⟩,
      ⟨some 57, (.binOp .sub 3 (.tmp 56) (.const (.int .i64 1)) 3), 3, none, some (nb + 57)⟩,
      ⟨some 58, (.binOp .lss 3 (.tmp 55) (.tmp 57) 3), 4, none, some (nb + 58)⟩]) (
    .cond (.tmp 58) (
     .skip) (
     .exit 2))) (
    .seq (
    .block 3 (
     .ops [⟨some 61, (.move (.tmp 0)), 29, none, some (nb + 61)⟩,
       ⟨some 62, (.move (.tmp 13)), 3, none, some (nb + 62)⟩,
       ⟨some 63, (.move (.tmp 0)), 29, none, some (nb + 63)⟩,
       ⟨some 64, (.move (.tmp 13)), 3, none, some (nb + 64)⟩,
       ⟨some 65, (.binOp .add 3 (.tmp 64) (.const (.int .i64 1)) 3), 3, none, some (nb + 65)⟩,
       ⟨some 66, (.move (.tmp 0)), 29, none, some (nb + 66)⟩,
       ⟨some 67, (.move (.tmp 13)), 3, none, some (nb + 67)⟩,
       ⟨some 68, (.binOp .add 3 (.tmp 67) (.const (.int .i64 1)) 3), 3, none, some (nb + 68)⟩,
       ⟨some 69, (.indexAddr 29 (.tmp 66) (.tmp 68)), 0, none, some (nb + 69)⟩,
       ⟨some 70, (.load 3 (.tmp 69)), 3, none, some (nb + 70)⟩,
       ⟨some 71, (.move (.tmp 0)), 29, none, some (nb + 71)⟩,
       ⟨some 72, (.move (.tmp 13)), 3, none, some (nb + 72)⟩,
       ⟨some 73, (.indexAddr 29 (.tmp 71) (.tmp 72)), 0, none, some (nb + 73)⟩,
       ⟨some 74, (.load 3 (.tmp 73)), 3, none, some (nb + 74)⟩,
       ⟨some 75, (.indexAddr 29 (.tmp 61) (.tmp 62)), 0, none, some (nb + 75)⟩,
       ⟨none, (.store 3 (.tmp 75) (.tmp 70)), 0, none, none⟩,
       ⟨some 76, (.indexAddr 29 (.tmp 63) (.tmp 65)), 0, none, some (nb + 76)⟩,
       ⟨none, (.store 3 (.tmp 76) (.tmp 74)), 0, none, none⟩])) (
    .ops [⟨some 59, (.move (.tmp 13)), 3, none, some (nb + 59)⟩,
      ⟨some 60, (.binOp .add 3 (.tmp 59) (.const (.int .i64 1)) 3), 3, none, some (nb + 60)⟩,
      ⟨some 13, (.assign (.tmp 60)), 3, none, some (nb + 13)⟩])))))) (
  .ret))))) (
  .skip))) (
 .seq (
 .seq (
 .ops [⟨some 77, (.move (.tmp 3)), 3, none, some (nb + 77)⟩,
   ⟨some 78, (.move (.tmp 2)), 3, none, some (nb + 78)⟩,
   ⟨some 79, (.binOp .sub 3 (.tmp 77) (.tmp 78) 3), 3, none, some (nb + 79)⟩,
   ⟨some 80, (.binOp .eql 3 (.tmp 79) (.const (.int .i64 1)) 3), 4, none, some (nb + 80)⟩]) (
 .cond (.tmp 80) (
  .seq (
  .ops [⟨some 81, (.move (.tmp 1)), 3, none, some (nb + 81)⟩,
    ⟨some 14, (.assign (.tmp 81)), 3, none, some (nb + 14)⟩]) (
  .seq (
  .ops [⟨some 82, (.move (.tmp 2)), 3, none, some (nb + 82)⟩,
    ⟨some 15, (.assign (.tmp 82)), 3, none, some (nb + 15)⟩]) (
  .seq (
  .block 4 (
   .loop (
    .seq (
    .seq (
    .ops [⟨some 83, (.move (.tmp 14)), 3, none, some (nb + 83)⟩,
      ⟨some 84, (.move (.tmp 15)), 3, none, some (nb + 84)⟩,
      ⟨some 85, (.binOp .lss 3 (.tmp 83) (.tmp 84) 3), 4, none, some (nb + 85)⟩]) (
    .cond (.tmp 85) (
     .skip) (
     .exit 4))) (
    .block 5 (
     .seq (
     .ops [⟨some 86, (.move (.tmp 14)), 3, none, some (nb + 86)⟩,
       ⟨some 87, (.move (.tmp 15)), 3, none, some (nb + 87)⟩,
       ⟨some 88, (.binOp .add 3 (.tmp 86) (.tmp 87) 3), 3, none, some (nb + 88)⟩,
       ⟨some 89, (.convert 3 151 (.tmp 88)), 151, none, some (nb + 89)⟩,
       ⟨some 90, (.binOp .shr 151 (.tmp 89) (.const (.int .u64 1)) 151), 151, none, some (nb + 90)⟩,
       ⟨some 91, (.convert 151 3 (.tmp 90)), 3, none, some (nb + 91)⟩,
       ⟨some 16, (.assign (.tmp 91)), 3, none, some (nb + 16)⟩]) (
     .seq (
     .ops [⟨some 92, (.move (.tmp 4)), 124, none, some (nb + 92)⟩,
       ⟨some 93, (.move (.tmp 0)), 29, none, some (nb + 93)⟩,
       ⟨some 94, (.move (.tmp 2)), 3, none, some (nb + 94)⟩,
       ⟨some 95, (.indexAddr 29 (.tmp 93) (.tmp 94)), 0, none, some (nb + 95)⟩,
       ⟨some 96, (.load 3 (.tmp 95)), 3, none, some (nb + 96)⟩,
       ⟨some 97, (.move (.tmp 0)), 29, none, some (nb + 97)⟩,
       ⟨some 98, (.move (.tmp 16)), 3, none, some (nb + 98)⟩,
       ⟨some 99, (.indexAddr 29 (.tmp 97) (.tmp 98)), 0, none, some (nb + 99)⟩,
       ⟨some 100, (.load 3 (.tmp 99)), 3, none, some (nb + 100)⟩,
       ⟨some 101, (.call { callee := .value (.tmp 92), args := #[(.tmp 96), (.tmp 100)], argTypes := #[3, 3] }), 3, none, some (nb + 101)⟩,
       ⟨some 102, (.binOp .lss 3 (.tmp 101) (.const (.int .i64 0)) 3), 4, none, some (nb + 102)⟩,
       ⟨some 103, (.unOp .not 4 (.tmp 102)), 4, none, some (nb + 103)⟩]) (
     .cond (.tmp 103) (
      .ops [⟨some 104, (.move (.tmp 16)), 3, none, some (nb + 104)⟩,
        ⟨some 105, (.binOp .add 3 (.tmp 104) (.const (.int .i64 1)) 3), 3, none, some (nb + 105)⟩,
        ⟨some 14, (.assign (.tmp 105)), 3, none, some (nb + 14)⟩]) (
      .ops [⟨some 106, (.move (.tmp 16)), 3, none, some (nb + 106)⟩,
        ⟨some 15, (.assign (.tmp 106)), 3, none, some (nb + 15)⟩])))))))) (
  .seq (
  .seq (
  .ops [⟨some 107, (.move (.tmp 2)), 3, none, some (nb + 107)⟩,
    ⟨some 17, (.assign (.tmp 107)), 3, none, some (nb + 17)⟩]) (
  .block 6 (
   .loop (
    .seq (
    .seq (
    .ops [⟨some 108, (.move (.tmp 17)), 3, none, some (nb + 108)⟩,
      ⟨some 109, (.move (.tmp 14)), 3, none, some (nb + 109)⟩,
      ⟨some 110, (.binOp .gtr 3 (.tmp 108) (.tmp 109) 3), 4, none, some (nb + 110)⟩]) (
    .cond (.tmp 110) (
     .skip) (
     .exit 6))) (
    .seq (
    .block 7 (
     .ops [⟨some 113, (.move (.tmp 0)), 29, none, some (nb + 113)⟩,
       ⟨some 114, (.move (.tmp 17)), 3, none, some (nb + 114)⟩,
       ⟨some 115, (.move (.tmp 0)), 29, none, some (nb + 115)⟩,
       ⟨some 116, (.move (.tmp 17)), 3, none, some (nb + 116)⟩,
       ⟨some 117, (.binOp .sub 3 (.tmp 116) (.const (.int .i64 1)) 3), 3, none, some (nb + 117)⟩,
       ⟨some 118, (.move (.tmp 0)), 29, none, some (nb + 118)⟩,
       ⟨some 119, (.move (.tmp 17)), 3, none, some (nb + 119)⟩,
       ⟨some 120, (.binOp .sub 3 (.tmp 119) (.const (.int .i64 1)) 3), 3, none, some (nb + 120)⟩,
       ⟨some 121, (.indexAddr 29 (.tmp 118) (.tmp 120)), 0, none, some (nb + 121)⟩,
       ⟨some 122, (.load 3 (.tmp 121)), 3, none, some (nb + 122)⟩,
       ⟨some 123, (.move (.tmp 0)), 29, none, some (nb + 123)⟩,
       ⟨some 124, (.move (.tmp 17)), 3, none, some (nb + 124)⟩,
       ⟨some 125, (.indexAddr 29 (.tmp 123) (.tmp 124)), 0, none, some (nb + 125)⟩,
       ⟨some 126, (.load 3 (.tmp 125)), 3, none, some (nb + 126)⟩,
       ⟨some 127, (.indexAddr 29 (.tmp 113) (.tmp 114)), 0, none, some (nb + 127)⟩,
       ⟨none, (.store 3 (.tmp 127) (.tmp 122)), 0, none, none⟩,
       ⟨some 128, (.indexAddr 29 (.tmp 115) (.tmp 117)), 0, none, some (nb + 128)⟩,
       ⟨none, (.store 3 (.tmp 128) (.tmp 126)), 0, none, none⟩])) (
    .ops [⟨some 111, (.move (.tmp 17)), 3, none, some (nb + 111)⟩,
      ⟨some 112, (.binOp .sub 3 (.tmp 111) (.const (.int .i64 1)) 3), 3, none, some (nb + 112)⟩,
      ⟨some 17, (.assign (.tmp 112)), 3, none, some (nb + 17)⟩])))))) (
  .ret))))) (
  .skip))) (
 .seq (
 .ops [⟨some 129, (.move (.tmp 1)), 3, none, some (nb + 129)⟩,
   ⟨some 130, (.move (.tmp 3)), 3, none, some (nb + 130)⟩,
   ⟨some 131, (.binOp .add 3 (.tmp 129) (.tmp 130) 3), 3, none, some (nb + 131)⟩,
   ⟨some 132, (.convert 3 151 (.tmp 131)), 151, none, some (nb + 132)⟩,
   ⟨some 133, (.binOp .shr 151 (.tmp 132) (.const (.int .u64 1)) 151), 151, none, some (nb + 133)⟩,
   ⟨some 134, (.convert 151 3 (.tmp 133)), 3, none, some (nb + 134)⟩,
   ⟨some 18, (.assign (.tmp 134)), 3, none, some (nb + 18)⟩]) (
 .seq (
 .ops [⟨some 135, (.move (.tmp 18)), 3, none, some (nb + 135)⟩,
   ⟨some 136, (.move (.tmp 2)), 3, none, some (nb + 136)⟩,
   ⟨some 137, (.binOp .add 3 (.tmp 135) (.tmp 136) 3), 3, none, some (nb + 137)⟩,
   ⟨some 19, (.assign (.tmp 137)), 3, none, some (nb + 19)⟩]) (
 .seq (
 .ops [⟨some 20, (.assign (.const (.int .i64 0))), 3, none, some (nb + 20)⟩,
   ⟨some 21, (.assign (.const (.int .i64 0))), 3, none, some (nb + 21)⟩]) (
 .seq (
 .seq (
 .ops [⟨some 138, (.move (.tmp 2)), 3, none, some (nb + 138)⟩,
   ⟨some 139, (.move (.tmp 18)), 3, none, some (nb + 139)⟩,
   ⟨some 140, (.binOp .gtr 3 (.tmp 138) (.tmp 139) 3), 4, none, some (nb + 140)⟩]) (
 .cond (.tmp 140) (
  .seq (
  .ops [⟨some 141, (.move (.tmp 19)), 3, none, some (nb + 141)⟩,
    ⟨some 142, (.move (.tmp 3)), 3, none, some (nb + 142)⟩,
    ⟨some 143, (.binOp .sub 3 (.tmp 141) (.tmp 142) 3), 3, none, some (nb + 143)⟩,
    ⟨some 20, (.assign (.tmp 143)), 3, none, some (nb + 20)⟩]) (
  .ops [⟨some 144, (.move (.tmp 18)), 3, none, some (nb + 144)⟩,
    ⟨some 21, (.assign (.tmp 144)), 3, none, some (nb + 21)⟩])) (
  .seq (
  .ops [⟨some 145, (.move (.tmp 1)), 3, none, some (nb + 145)⟩,
    ⟨some 20, (.assign (.tmp 145)), 3, none, some (nb + 20)⟩]) (
  .ops [⟨some 146, (.move (.tmp 2)), 3, none, some (nb + 146)⟩,
    ⟨some 21, (.assign (.tmp 146)), 3, none, some (nb + 21)⟩])))) (
 .seq (
 .ops [⟨some 147, (.move (.tmp 19)), 3, none, some (nb + 147)⟩,
   ⟨some 148, (.binOp .sub 3 (.tmp 147) (.const (.int .i64 1)) 3), 3, none, some (nb + 148)⟩,
   ⟨some 22, (.assign (.tmp 148)), 3, none, some (nb + 22)⟩]) (
 .seq (
 .block 8 (
  .loop (
   .seq (
   .seq (
   .ops [⟨some 149, (.move (.tmp 20)), 3, none, some (nb + 149)⟩,
     ⟨some 150, (.move (.tmp 21)), 3, none, some (nb + 150)⟩,
     ⟨some 151, (.binOp .lss 3 (.tmp 149) (.tmp 150) 3), 4, none, some (nb + 151)⟩]) (
   .cond (.tmp 151) (
    .skip) (
    .exit 8))) (
   .block 9 (
    .seq (
    .ops [⟨some 152, (.move (.tmp 20)), 3, none, some (nb + 152)⟩,
      ⟨some 153, (.move (.tmp 21)), 3, none, some (nb + 153)⟩,
      ⟨some 154, (.binOp .add 3 (.tmp 152) (.tmp 153) 3), 3, none, some (nb + 154)⟩,
      ⟨some 155, (.convert 3 151 (.tmp 154)), 151, none, some (nb + 155)⟩,
      ⟨some 156, (.binOp .shr 151 (.tmp 155) (.const (.int .u64 1)) 151), 151, none, some (nb + 156)⟩,
      ⟨some 157, (.convert 151 3 (.tmp 156)), 3, none, some (nb + 157)⟩,
      ⟨some 23, (.assign (.tmp 157)), 3, none, some (nb + 23)⟩]) (
    .seq (
    .ops [⟨some 158, (.move (.tmp 4)), 124, none, some (nb + 158)⟩,
      ⟨some 159, (.move (.tmp 0)), 29, none, some (nb + 159)⟩,
      ⟨some 160, (.move (.tmp 22)), 3, none, some (nb + 160)⟩,
      ⟨some 161, (.move (.tmp 23)), 3, none, some (nb + 161)⟩,
      ⟨some 162, (.binOp .sub 3 (.tmp 160) (.tmp 161) 3), 3, none, some (nb + 162)⟩,
      ⟨some 163, (.indexAddr 29 (.tmp 159) (.tmp 162)), 0, none, some (nb + 163)⟩,
      ⟨some 164, (.load 3 (.tmp 163)), 3, none, some (nb + 164)⟩,
      ⟨some 165, (.move (.tmp 0)), 29, none, some (nb + 165)⟩,
      ⟨some 166, (.move (.tmp 23)), 3, none, some (nb + 166)⟩,
      ⟨some 167, (.indexAddr 29 (.tmp 165) (.tmp 166)), 0, none, some (nb + 167)⟩,
      ⟨some 168, (.load 3 (.tmp 167)), 3, none, some (nb + 168)⟩,
      ⟨some 169, (.call { callee := .value (.tmp 158), args := #[(.tmp 164), (.tmp 168)], argTypes := #[3, 3] }), 3, none, some (nb + 169)⟩,
      ⟨some 170, (.binOp .lss 3 (.tmp 169) (.const (.int .i64 0)) 3), 4, none, some (nb + 170)⟩,
      ⟨some 171, (.unOp .not 4 (.tmp 170)), 4, none, some (nb + 171)⟩]) (
    .cond (.tmp 171) (
     .ops [⟨some 172, (.move (.tmp 23)), 3, none, some (nb + 172)⟩,
       ⟨some 173, (.binOp .add 3 (.tmp 172) (.const (.int .i64 1)) 3), 3, none, some (nb + 173)⟩,
       ⟨some 20, (.assign (.tmp 173)), 3, none, some (nb + 20)⟩]) (
     .ops [⟨some 174, (.move (.tmp 23)), 3, none, some (nb + 174)⟩,
       ⟨some 21, (.assign (.tmp 174)), 3, none, some (nb + 21)⟩])))))))) (
 .seq (
 .ops [⟨some 175, (.move (.tmp 19)), 3, none, some (nb + 175)⟩,
   ⟨some 176, (.move (.tmp 20)), 3, none, some (nb + 176)⟩,
   ⟨some 177, (.binOp .sub 3 (.tmp 175) (.tmp 176) 3), 3, none, some (nb + 177)⟩,
   ⟨some 24, (.assign (.tmp 177)), 3, none, some (nb + 24)⟩]) (
 .seq (
 .seq (
 .ops [⟨some 178, (.move (.tmp 20)), 3, none, some (nb + 178)⟩,
   ⟨some 179, (.move (.tmp 2)), 3, none, some (nb + 179)⟩,
   ⟨some 180, (.binOp .lss 3 (.tmp 178) (.tmp 179) 3), 4, none, some (nb + 180)⟩,
   ⟨some 181, (.move (.tmp 180)), 4, none, some (nb + 181)⟩,
   ⟨some 182, (.move (.tmp 2)), 3, some (181, true), some (nb + 182)⟩,
   ⟨some 183, (.move (.tmp 24)), 3, some (181, true), some (nb + 183)⟩,
   ⟨some 184, (.binOp .lss 3 (.tmp 182) (.tmp 183) 3), 4, some (181, true), some (nb + 184)⟩,
   ⟨some 185, (.pick (.tmp 181) (.tmp 184) (.const (.bool false))), 4, none, some (nb + 185)⟩]) (
 .cond (.tmp 185) (
  .ops [⟨some 186, (.move (.tmp 0)), 29, none, some (nb + 186)⟩,
    ⟨some 187, (.move (.tmp 20)), 3, none, some (nb + 187)⟩,
    ⟨some 188, (.move (.tmp 2)), 3, none, some (nb + 188)⟩,
    ⟨some 189, (.move (.tmp 24)), 3, none, some (nb + 189)⟩,
    ⟨some 190, (.move (.tmp 4)), 124, none, some (nb + 190)⟩,
    ⟨some 191, (.call { callee := .value (.func 79), args := #[(.tmp 186), (.tmp 187), (.tmp 188), (.tmp 189), (.tmp 190)], argTypes := #[29, 3, 3, 3, 124] }), 0, none, some (nb + 191)⟩]) (
  .skip))) (
 .seq (
 .seq (
 .ops [⟨some 192, (.move (.tmp 1)), 3, none, some (nb + 192)⟩,
   ⟨some 193, (.move (.tmp 20)), 3, none, some (nb + 193)⟩,
   ⟨some 194, (.binOp .lss 3 (.tmp 192) (.tmp 193) 3), 4, none, some (nb + 194)⟩,
   ⟨some 195, (.move (.tmp 194)), 4, none, some (nb + 195)⟩,
   ⟨some 196, (.move (.tmp 20)), 3, some (195, true), some (nb + 196)⟩,
   ⟨some 197, (.move (.tmp 18)), 3, some (195, true), some (nb + 197)⟩,
   ⟨some 198, (.binOp .lss 3 (.tmp 196) (.tmp 197) 3), 4, some (195, true), some (nb + 198)⟩,
   ⟨some 199, (.pick (.tmp 195) (.tmp 198) (.const (.bool false))), 4, none, some (nb + 199)⟩]) (
 .cond (.tmp 199) (
  .ops [⟨some 200, (.move (.tmp 0)), 29, none, some (nb + 200)⟩,
    ⟨some 201, (.move (.tmp 1)), 3, none, some (nb + 201)⟩,
    ⟨some 202, (.move (.tmp 20)), 3, none, some (nb + 202)⟩,
    ⟨some 203, (.move (.tmp 18)), 3, none, some (nb + 203)⟩,
    ⟨some 204, (.move (.tmp 4)), 124, none, some (nb + 204)⟩,
    ⟨some 205, (.call { callee := .value (.func 77), args := #[(.tmp 200), (.tmp 201), (.tmp 202), (.tmp 203), (.tmp 204)], argTypes := #[29, 3, 3, 3, 124] }), 0, none, some (nb + 205)⟩]) (
  .skip))) (
 .seq (
 .ops [⟨some 206, (.move (.tmp 18)), 3, none, some (nb + 206)⟩,
   ⟨some 207, (.move (.tmp 24)), 3, none, some (nb + 207)⟩,
   ⟨some 208, (.binOp .lss 3 (.tmp 206) (.tmp 207) 3), 4, none, some (nb + 208)⟩,
   ⟨some 209, (.move (.tmp 208)), 4, none, some (nb + 209)⟩,
   ⟨some 210, (.move (.tmp 24)), 3, some (209, true), some (nb + 210)⟩,
   ⟨some 211, (.move (.tmp 3)), 3, some (209, true), some (nb + 211)⟩,
   ⟨some 212, (.binOp .lss 3 (.tmp 210) (.tmp 211) 3), 4, some (209, true), some (nb + 212)⟩,
   ⟨some 213, (.pick (.tmp 209) (.tmp 212) (.const (.bool false))), 4, none, some (nb + 213)⟩]) (
 .cond (.tmp 213) (
  .ops [⟨some 214, (.move (.tmp 0)), 29, none, some (nb + 214)⟩,
    ⟨some 215, (.move (.tmp 18)), 3, none, some (nb + 215)⟩,
    ⟨some 216, (.move (.tmp 24)), 3, none, some (nb + 216)⟩,
    ⟨some 217, (.move (.tmp 3)), 3, none, some (nb + 217)⟩,
    ⟨some 218, (.move (.tmp 4)), 124, none, some (nb + 218)⟩,
    ⟨some 219, (.call { callee := .value (.func 77), args := #[(.tmp 214), (.tmp 215), (.tmp 216), (.tmp 217), (.tmp 218)], argTypes := #[29, 3, 3, 3, 124] }), 0, none, some (nb + 219)⟩]) (
  .skip)))))))))))))
@[go_sem] theorem rs77 : Go.Proofs.Try.f77.results.toList = [] := by kernel_rfl
theorem en77 : Enters Q 77 := enters_of Go.Proofs.Try.func77 rfl (by kernel_rfl)
theorem k77 (nb : Nat) : sk nb Go.Proofs.Try.f77.ntmps (Go.Proofs.Try.f77.body.getD .skip) = some (c77 nb) := by kernel_rfl
/-- slices.IndexFunc[[]smalto/api.CoatSlip,smalto/api.CoatSlip] -/
noncomputable def c78 (nb : Nat) : SC :=
 .seq (
 .ops [⟨some 4, (.assign (.const (.int .i64 0))), 3, none, some (nb + 4)⟩]) (
 .seq (
 .seq (
 .ops [⟨some 6, (.move (.tmp 0)), 25, none, some (nb + 6)⟩,
   ⟨some 7, (.call { callee := .builtin .len, args := #[(.tmp 6)], argTypes := #[25] }), 3, none, some (nb + 7)⟩,
   ⟨some 8, (.move (.const (.int .i64 0))), 3, none, some (nb + 8)⟩]) (
 .block 0 (
  .loop (
   .seq (
   .ops [⟨some 9, (.binOp .lss 3 (.tmp 8) (.tmp 7) 3), 0, none, some (nb + 9)⟩]) (
   .seq (
   .cond (.tmp 9) (
    .skip) (
    .exit 0)) (
   .seq (
   .block 1 (
    .seq (
    .ops [⟨some 10, (.move (.tmp 8)), 3, none, some (nb + 10)⟩,
      ⟨some 5, (.assign (.tmp 10)), 3, none, some (nb + 5)⟩]) (
    .seq (
    .ops [⟨some 11, (.move (.tmp 1)), 143, none, some (nb + 11)⟩,
      ⟨some 12, (.move (.tmp 0)), 25, none, some (nb + 12)⟩,
      ⟨some 13, (.move (.tmp 5)), 3, none, some (nb + 13)⟩,
      ⟨some 14, (.indexAddr 25 (.tmp 12) (.tmp 13)), 0, none, some (nb + 14)⟩,
      ⟨some 15, (.load 105 (.tmp 14)), 105, none, some (nb + 15)⟩,
      ⟨some 16, (.call { callee := .value (.tmp 11), args := #[(.tmp 15)], argTypes := #[105] }), 4, none, some (nb + 16)⟩]) (
    .cond (.tmp 16) (
     .seq (
     .ops [⟨some 17, (.move (.tmp 5)), 3, none, some (nb + 17)⟩,
       ⟨some 4, (.assign (.tmp 17)), 3, none, some (nb + 4)⟩]) (
     .ret)) (
     .skip))))) (
   .ops [⟨some 18, (.binOp .add 3 (.tmp 8) (.const (.int .i64 1)) 3), 3, none, some (nb + 18)⟩,
     ⟨some 8, (.move (.tmp 18)), 3, none, some (nb + 8)⟩]))))))) (
 .seq (
 .ops [⟨some 4, (.assign (.const (.int .i64 (-1)))), 3, none, some (nb + 4)⟩]) (
 .ret)))
@[go_sem] theorem rs78 : Go.Proofs.Try.f78.results.toList = [.tmp 4] := by kernel_rfl
theorem en78 : Enters Q 78 := enters_of Go.Proofs.Try.func78 rfl (by kernel_rfl)
theorem k78 (nb : Nat) : sk nb Go.Proofs.Try.f78.ntmps (Go.Proofs.Try.f78.body.getD .skip) = some (c78 nb) := by kernel_rfl
/-- slices.rotateCmpFunc[int] -/
noncomputable def c79 (nb : Nat) : SC :=
 .seq (
 .ops [⟨some 12, (.move (.tmp 2)), 3, none, some (nb + 12)⟩,
   ⟨some 13, (.move (.tmp 1)), 3, none, some (nb + 13)⟩,
   ⟨some 14, (.binOp .sub 3 (.tmp 12) (.tmp 13) 3), 3, none, some (nb + 14)⟩,
   ⟨some 10, (.assign (.tmp 14)), 3, none, some (nb + 10)⟩]) (
 .seq (
 .ops [⟨some 15, (.move (.tmp 3)), 3, none, some (nb + 15)⟩,
   ⟨some 16, (.move (.tmp 2)), 3, none, some (nb + 16)⟩,
   ⟨some 17, (.binOp .sub 3 (.tmp 15) (.tmp 16) 3), 3, none, some (nb + 17)⟩,
   ⟨some 11, (.assign (.tmp 17)), 3, none, some (nb + 11)⟩]) (
 .seq (
 .block 0 (
  .loop (
   .seq (
   .seq (
   .ops [⟨some 18, (.move (.tmp 10)), 3, none, some (nb + 18)⟩,
     ⟨some 19, (.move (.tmp 11)), 3, none, some (nb + 19)⟩,
     ⟨some 20, (.binOp .neq 3 (.tmp 18) (.tmp 19) 3), 4, none, some (nb + 20)⟩]) (
   .cond (.tmp 20) (
    .skip) (
    .exit 0))) (
   .block 1 (
    .seq (
    .ops [⟨some 21, (.move (.tmp 10)), 3, none, some (nb + 21)⟩,
      ⟨some 22, (.move (.tmp 11)), 3, none, some (nb + 22)⟩,
      ⟨some 23, (.binOp .gtr 3 (.tmp 21) (.tmp 22) 3), 4, none, some (nb + 23)⟩]) (
    .cond (.tmp 23) (
     .seq (
     .ops [⟨some 24, (.move (.tmp 0)), 29, none, some (nb + 24)⟩,
       ⟨some 25, (.move (.tmp 2)), 3, none, some (nb + 25)⟩,
       ⟨some 26, (.move (.tmp 10)), 3, none, some (nb + 26)⟩,
       ⟨some 27, (.binOp .sub 3 (.tmp 25) (.tmp 26) 3), 3, none, some (nb + 27)⟩,
       ⟨some 28, (.move (.tmp 2)), 3, none, some (nb + 28)⟩,
       ⟨some 29, (.move (.tmp 11)), 3, none, some (nb + 29)⟩,
       ⟨some 30, (.move (.tmp 4)), 124, none, some (nb + 30)⟩,
       ⟨some 31, (.call { callee := .value (.func 80), args := #[(.tmp 24), (.tmp 27), (.tmp 28), (.tmp 29), (.tmp 30)], argTypes := #[29, 3, 3, 3, 124] }), 0, none, some (nb + 31)⟩]) (
     .ops [⟨some 32, (.move (.tmp 10)), 3, none, some (nb + 32)⟩,
       ⟨some 33, (.move (.tmp 11)), 3, none, some (nb + 33)⟩,
       ⟨some 34, (.binOp .sub 3 (.tmp 32) (.tmp 33) 3), 3, none, some (nb + 34)⟩,
       ⟨some 10, (.assign (.tmp 34)), 3, none, some (nb + 10)⟩])) (
     .seq (
     .ops [⟨some 35, (.move (.tmp 0)), 29, none, some (nb + 35)⟩,
       ⟨some 36, (.move (.tmp 2)), 3, none, some (nb + 36)⟩,
       ⟨some 37, (.move (.tmp 10)), 3, none, some (nb + 37)⟩,
       ⟨some 38, (.binOp .sub 3 (.tmp 36) (.tmp 37) 3), 3, none, some (nb + 38)⟩,
       ⟨some 39, (.move (.tmp 2)), 3, none, some (nb + 39)⟩,
       ⟨some 40, (.move (.tmp 11)), 3, none, some (nb + 40)⟩,
       ⟨some 41, (.binOp .add 3 (.tmp 39) (.tmp 40) 3), 3, none, some (nb + 41)⟩,
       ⟨some 42, (.move (.tmp 10)), 3, none, some (nb + 42)⟩,
       ⟨some 43, (.binOp .sub 3 (.tmp 41) (.tmp 42) 3), 3, none, some (nb + 43)⟩,
       ⟨some 44, (.move (.tmp 10)), 3, none, some (nb + 44)⟩,
       ⟨some 45, (.move (.tmp 4)), 124, none, some (nb + 45)⟩,
       ⟨some 46, (.call { callee := .value (.func 80), args := #[(.tmp 35), (.tmp 38), (.tmp 43), (.tmp 44), (.tmp 45)], argTypes := #[29, 3, 3, 3, 124] }), 0, none, some (nb + 46)⟩]) (
     .ops [⟨some 47, (.move (.tmp 11)), 3, none, some (nb + 47)⟩,
       ⟨some 48, (.move (.tmp 10)), 3, none, some (nb + 48)⟩,
       ⟨some 49, (.binOp .sub 3 (.tmp 47) (.tmp 48) 3), 3, none, some (nb + 49)⟩,
       ⟨some 11, (.assign (.tmp 49)), 3, none, some (nb + 11)⟩])))))))) (
 .ops [⟨some 50, (.move (.tmp 0)), 29, none, some (nb + 50)⟩,
   ⟨some 51, (.move (.tmp 2)), 3, none, some (nb + 51)⟩,
   ⟨some 52, (.move (.tmp 10)), 3, none, some (nb + 52)⟩,
   ⟨some 53, (.binOp .sub 3 (.tmp 51) (.tmp 52) 3), 3, none, some (nb + 53)⟩,
   ⟨some 54, (.move (.tmp 2)), 3, none, some (nb + 54)⟩,
   ⟨some 55, (.move (.tmp 10)), 3, none, some (nb + 55)⟩,
   ⟨some 56, (.move (.tmp 4)), 124, none, some (nb + 56)⟩,
   ⟨some 57, (.call { callee := .value (.func 80), args := #[(.tmp 50), (.tmp 53), (.tmp 54), (.tmp 55), (.tmp 56)], argTypes := #[29, 3, 3, 3, 124] }), 0, none, some (nb + 57)⟩])))
@[go_sem] theorem rs79 : Go.Proofs.Try.f79.results.toList = [] := by kernel_rfl
theorem en79 : Enters Q 79 := enters_of Go.Proofs.Try.func79 rfl (by kernel_rfl)
theorem k79 (nb : Nat) : sk nb Go.Proofs.Try.f79.ntmps (Go.Proofs.Try.f79.body.getD .skip) = some (c79 nb) := by kernel_rfl
/-- slices.swapRangeCmpFunc[int] -/
noncomputable def c80 (nb : Nat) : SC :=
 .seq (
 .ops [⟨some 10, (.assign (.const (.int .i64 0))), 3, none, some (nb + 10)⟩]) (
 .block 0 (
  .loop (
   .seq (
   .seq (
   .ops [⟨some 11, (.move (.tmp 10)), 3, none, some (nb + 11)⟩,
     ⟨some 12, (.move (.tmp 3)), 3, none, some (nb + 12)⟩,
     ⟨some 13, (.binOp .lss 3 (.tmp 11) (.tmp 12) 3), 4, none, some (nb + 13)⟩]) (
   .cond (.tmp 13) (
    .skip) (
    .exit 0))) (
   .seq (
   .block 1 (
    .ops [⟨some 16, (.move (.tmp 0)), 29, none, some (nb + 16)⟩,
      ⟨some 17, (.move (.tmp 1)), 3, none, some (nb + 17)⟩,
      ⟨some 18, (.move (.tmp 10)), 3, none, some (nb + 18)⟩,
      ⟨some 19, (.binOp .add 3 (.tmp 17) (.tmp 18) 3), 3, none, some (nb + 19)⟩,
      ⟨some 20, (.move (.tmp 0)), 29, none, some (nb + 20)⟩,
      ⟨some 21, (.move (.tmp 2)), 3, none, some (nb + 21)⟩,
      ⟨some 22, (.move (.tmp 10)), 3, none, some (nb + 22)⟩,
      ⟨some 23, (.binOp .add 3 (.tmp 21) (.tmp 22) 3), 3, none, some (nb + 23)⟩,
      ⟨some 24, (.move (.tmp 0)), 29, none, some (nb + 24)⟩,
      ⟨some 25, (.move (.tmp 2)), 3, none, some (nb + 25)⟩,
      ⟨some 26, (.move (.tmp 10)), 3, none, some (nb + 26)⟩,
      ⟨some 27, (.binOp .add 3 (.tmp 25) (.tmp 26) 3), 3, none, some (nb + 27)⟩,
      ⟨some 28, (.indexAddr 29 (.tmp 24) (.tmp 27)), 0, none, some (nb + 28)⟩,
      ⟨some 29, (.load 3 (.tmp 28)), 3, none, some (nb + 29)⟩,
      ⟨some 30, (.move (.tmp 0)), 29, none, some (nb + 30)⟩,
      ⟨some 31, (.move (.tmp 1)), 3, none, some (nb + 31)⟩,
      ⟨some 32, (.move (.tmp 10)), 3, none, some (nb + 32)⟩,
      ⟨some 33, (.binOp .add 3 (.tmp 31) (.tmp 32) 3), 3, none, some (nb + 33)⟩,
      ⟨some 34, (.indexAddr 29 (.tmp 30) (.tmp 33)), 0, none, some (nb + 34)⟩,
      ⟨some 35, (.load 3 (.tmp 34)), 3, none, some (nb + 35)⟩,
      ⟨some 36, (.indexAddr 29 (.tmp 16) (.tmp 19)), 0, none, some (nb + 36)⟩,
      ⟨none, (.store 3 (.tmp 36) (.tmp 29)), 0, none, none⟩,
      ⟨some 37, (.indexAddr 29 (.tmp 20) (.tmp 23)), 0, none, some (nb + 37)⟩,
      ⟨none, (.store 3 (.tmp 37) (.tmp 35)), 0, none, none⟩])) (
   .ops [⟨some 14, (.move (.tmp 10)), 3, none, some (nb + 14)⟩,
     ⟨some 15, (.binOp .add 3 (.tmp 14) (.const (.int .i64 1)) 3), 3, none, some (nb + 15)⟩,
     ⟨some 10, (.assign (.tmp 15)), 3, none, some (nb + 10)⟩])))))
@[go_sem] theorem rs80 : Go.Proofs.Try.f80.results.toList = [] := by kernel_rfl
theorem en80 : Enters Q 80 := enters_of Go.Proofs.Try.func80 rfl (by kernel_rfl)
theorem k80 (nb : Nat) : sk nb Go.Proofs.Try.f80.ntmps (Go.Proofs.Try.f80.body.getD .skip) = some (c80 nb) := by kernel_rfl
end S12

