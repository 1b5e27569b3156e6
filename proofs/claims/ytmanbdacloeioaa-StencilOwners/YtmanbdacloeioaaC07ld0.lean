/- A part of the proof: C07ld0. -/
import Derived.Test.YtmanbdacloeioaaF07
set_option linter.unusedVariables false
set_option linter.unusedSimpArgs false
set_option maxRecDepth 20000
namespace S07
open Go Abs
/-- smalto/smaltolaw07.StencilOwners -/
noncomputable def c11 (nb : Nat) : SC :=
 .seq (
 .ops [sop nb 3 (.box 71 (.tmp 0)) 0,
 sop nb 4 (.box 100 (.tmp 1)) 0,
 sop nb 5 (.box 101 (.tmp 2)) 0,
 sop nb 6 (.assign (.const (.bool false))) 4]) (
 .seq (
 .ops [sop nb 32 (.load 71 (.tmp 3)) 71,
 sop nb 33 (.call { callee := .value (.func 42), args := #[(.tmp 32)], argTypes := #[71] }) 24,
 sop nb 34 (.buildSlice 25 0 #[]) 25,
 sop nb 7 (.alloc 24) 0,
   ⟨none, (.store 24 (.tmp 7) (.tmp 33)), 0, none, none⟩,
 sop nb 8 (.assign (.tmp 34)) 25]) (
 .seq (
 .ops [sop nb 35 (.indexAddr 101 (.tmp 5) (.const (.int .i64 0))) 0,
 sop nb 36 (.load 5 (.tmp 35)) 5,
 sop nb 37 (.convert 5 3 (.tmp 36)) 3,
 sop nb 38 (.binOp .rem 3 (.tmp 37) (.const (.int .i64 4)) 3) 3,
 sop nb 39 (.binOp .add 3 (.const (.int .i64 1)) (.tmp 38) 3) 3,
 sop nb 9 (.assign (.tmp 39)) 3]) (
 .seq (
 .seq (
 .ops [sop nb 10 (.assign (.const (.int .i64 0))) 3]) (
 .block 0 (
  .loop (
   .seq (
   .seq (
   .ops [sop nb 40 (.move (.tmp 10)) 3,
     sop nb 41 (.move (.tmp 9)) 3,
     sop nb 42 (.binOp .lss 3 (.tmp 40) (.tmp 41) 3) 4]) (
   .cond (.tmp 42) (
    .skip) (
    .exit 0))) (
   .seq (
   .block 1 (
    .ops [sop nb 45 (.move (.tmp 8)) 25,
      sop nb 46 (.load 24 (.tmp 7)) 24,
      sop nb 47 (.move (.tmp 10)) 3,
      sop nb 48 (.indexAddr 100 (.tmp 4) (.tmp 47)) 0,
      sop nb 49 (.load 95 (.tmp 48)) 95,
      sop nb 50 (.call { callee := .value (.func 53), args := #[(.tmp 46), (.tmp 49)], argTypes := #[24, 95] }) 26,
      sop nb 51 (.buildSlice 25 1 #[(0, (.tmp 50))]) 25,
      sop nb 52 (.call { callee := .builtin .append, args := #[(.tmp 45), (.tmp 51)], argTypes := #[25, 25] }) 25,
      sop nb 8 (.assign (.tmp 52)) 25])) (
   .ops [sop nb 43 (.move (.tmp 10)) 3,
     sop nb 44 (.binOp .add 3 (.tmp 43) (.const (.int .i64 1)) 3) 3,
     sop nb 10 (.assign (.tmp 44)) 3])))))) (
 .seq (
 .ops [sop nb 53 (.fieldAddr 24 (.tmp 7) 0) 0,
 sop nb 54 (.load 3 (.tmp 53)) 3,
 sop nb 55 (.makeSlice 26 (.tmp 54) (.tmp 54)) 26,
 sop nb 56 (.buildSlice 26 0 #[]) 26,
 sop nb 11 (.assign (.tmp 55)) 26,
 sop nb 12 (.assign (.tmp 56)) 26,
 sop nb 13 (.assign (.const (.int .i64 0))) 3]) (
 .seq (
 .seq (
 .ops [sop nb 14 (.assign (.const (.int .i64 0))) 3]) (
 .block 2 (
  .loop (
   .seq (
   .seq (
   .ops [sop nb 57 (.move (.tmp 14)) 3,
     sop nb 58 (.move (.tmp 9)) 3,
     sop nb 59 (.binOp .lss 3 (.tmp 57) (.tmp 58) 3) 4]) (
   .cond (.tmp 59) (
    .skip) (
    .exit 2))) (
   .seq (
   .block 3 (
    .seq (
    .ops [sop nb 62 (.indexAddr 101 (.tmp 5) (.const (.int .i64 1))) 0,
      sop nb 63 (.load 5 (.tmp 62)) 5,
      sop nb 64 (.move (.tmp 14)) 3,
      sop nb 65 (.convert 3 102 (.tmp 64)) 102,
      sop nb 66 (.binOp .shr 5 (.tmp 63) (.tmp 65) 102) 5,
      sop nb 67 (.binOp .and 5 (.tmp 66) (.const (.int .u8 1)) 5) 5,
      sop nb 68 (.binOp .eql 5 (.tmp 67) (.const (.int .u8 1)) 5) 4,
      sop nb 69 (.move (.tmp 68)) 4,
      ⟨some 70, (.move (.tmp 14)), 3, some (69, false), some (nb + 70)⟩,
      ⟨some 71, (.move (.tmp 9)), 3, some (69, false), some (nb + 71)⟩,
      ⟨some 72, (.binOp .sub 3 (.tmp 71) (.const (.int .i64 1)) 3), 3, some (69, false), some (nb + 72)⟩,
      ⟨some 73, (.binOp .eql 3 (.tmp 70) (.tmp 72) 3), 4, some (69, false), some (nb + 73)⟩,
      ⟨some 74, (.move (.tmp 73)), 4, some (69, false), some (nb + 74)⟩,
      ⟨some 75, (.move (.tmp 12)), 26, some (74, true), some (nb + 75)⟩,
      ⟨some 76, (.call { callee := .builtin .len, args := #[(.tmp 75)], argTypes := #[26] }), 3, some (74, true), some (nb + 76)⟩,
      ⟨some 77, (.binOp .eql 3 (.tmp 76) (.const (.int .i64 0)) 3), 4, some (74, true), some (nb + 77)⟩,
      ⟨some 78, (.pick (.tmp 74) (.tmp 77) (.const (.bool false))), 4, some (69, false), some (nb + 78)⟩,
      sop nb 79 (.pick (.tmp 69) (.const (.bool true)) (.tmp 78)) 4]) (
    .cond (.tmp 79) (
     .seq (
     .ops [sop nb 80 (.move (.tmp 12)) 26,
       sop nb 81 (.move (.tmp 14)) 3,
       sop nb 82 (.buildSlice 26 1 #[(0, (.tmp 81))]) 26,
       sop nb 83 (.call { callee := .builtin .append, args := #[(.tmp 80), (.tmp 82)], argTypes := #[26, 26] }) 26,
       sop nb 12 (.assign (.tmp 83)) 26]) (
     .seq (
     .ops [sop nb 15 (.assign (.const (.int .i64 0))) 3]) (
     .block 4 (
      .loop (
       .seq (
       .seq (
       .ops [sop nb 84 (.move (.tmp 15)) 3,
         sop nb 85 (.fieldAddr 24 (.tmp 7) 0) 0,
         sop nb 86 (.load 3 (.tmp 85)) 3,
         sop nb 87 (.binOp .lss 3 (.tmp 84) (.tmp 86) 3) 4]) (
       .cond (.tmp 87) (
        .skip) (
        .exit 4))) (
       .seq (
       .block 5 (
        .ops [sop nb 90 (.move (.tmp 11)) 26,
          sop nb 91 (.move (.tmp 15)) 3,
          sop nb 92 (.indexAddr 26 (.tmp 90) (.tmp 91)) 0,
          sop nb 93 (.load 3 (.tmp 92)) 3,
          sop nb 94 (.move (.tmp 8)) 25,
          sop nb 95 (.move (.tmp 14)) 3,
          sop nb 96 (.indexAddr 25 (.tmp 94) (.tmp 95)) 0,
          sop nb 97 (.load 26 (.tmp 96)) 26,
          sop nb 98 (.move (.tmp 15)) 3,
          sop nb 99 (.indexAddr 26 (.tmp 97) (.tmp 98)) 0,
          sop nb 100 (.load 3 (.tmp 99)) 3,
          sop nb 101 (.binOp .add 3 (.tmp 93) (.tmp 100) 3) 3,
          sop nb 102 (.indexAddr 26 (.tmp 90) (.tmp 91)) 0,
          ⟨none, (.store 3 (.tmp 102) (.tmp 101)), 0, none, none⟩])) (
       .ops [sop nb 88 (.move (.tmp 15)) 3,
         sop nb 89 (.binOp .add 3 (.tmp 88) (.const (.int .i64 1)) 3) 3,
         sop nb 15 (.assign (.tmp 89)) 3]))))))) (
     .skip)))) (
   .ops [sop nb 60 (.move (.tmp 14)) 3,
     sop nb 61 (.binOp .add 3 (.tmp 60) (.const (.int .i64 1)) 3) 3,
     sop nb 14 (.assign (.tmp 61)) 3])))))) (
 .seq (
 .seq (
 .ops [sop nb 16 (.assign (.const (.int .i64 0))) 3]) (
 .block 6 (
  .loop (
   .seq (
   .seq (
   .ops [sop nb 103 (.move (.tmp 16)) 3,
     sop nb 104 (.fieldAddr 24 (.tmp 7) 0) 0,
     sop nb 105 (.load 3 (.tmp 104)) 3,
     sop nb 106 (.binOp .lss 3 (.tmp 103) (.tmp 105) 3) 4]) (
   .cond (.tmp 106) (
    .skip) (
    .exit 6))) (
   .seq (
   .block 7 (
    .seq (
    .ops [sop nb 109 (.move (.tmp 16)) 3,
      sop nb 110 (.binOp .add 3 (.const (.int .i64 2)) (.tmp 109) 3) 3,
      sop nb 111 (.indexAddr 101 (.tmp 5) (.tmp 110)) 0,
      sop nb 112 (.load 5 (.tmp 111)) 5,
      sop nb 113 (.convert 5 3 (.tmp 112)) 3,
      sop nb 114 (.binOp .rem 3 (.tmp 113) (.const (.int .i64 3)) 3) 3,
      sop nb 17 (.assign (.tmp 114)) 3]) (
    .seq (
    .ops [sop nb 115 (.move (.tmp 11)) 26,
      sop nb 116 (.move (.tmp 16)) 3,
      sop nb 117 (.indexAddr 26 (.tmp 115) (.tmp 116)) 0,
      sop nb 118 (.load 3 (.tmp 117)) 3,
      sop nb 119 (.move (.tmp 17)) 3,
      sop nb 120 (.binOp .geq 3 (.tmp 118) (.tmp 119) 3) 4,
      sop nb 121 (.move (.tmp 120)) 4,
      ⟨some 122, (.move (.tmp 13)), 3, some (121, true), some (nb + 122)⟩,
      ⟨some 123, (.move (.tmp 17)), 3, some (121, true), some (nb + 123)⟩,
      ⟨some 124, (.binOp .add 3 (.tmp 122) (.tmp 123) 3), 3, some (121, true), some (nb + 124)⟩,
      ⟨some 125, (.binOp .leq 3 (.tmp 124) (.const (.int .i64 12)) 3), 4, some (121, true), some (nb + 125)⟩,
      sop nb 126 (.pick (.tmp 121) (.tmp 125) (.const (.bool false))) 4]) (
    .cond (.tmp 126) (
     .ops [sop nb 127 (.move (.tmp 11)) 26,
       sop nb 128 (.move (.tmp 16)) 3,
       sop nb 129 (.move (.tmp 11)) 26,
       sop nb 130 (.move (.tmp 16)) 3,
       sop nb 131 (.indexAddr 26 (.tmp 129) (.tmp 130)) 0,
       sop nb 132 (.load 3 (.tmp 131)) 3,
       sop nb 133 (.move (.tmp 17)) 3,
       sop nb 134 (.binOp .sub 3 (.tmp 132) (.tmp 133) 3) 3,
       sop nb 135 (.move (.tmp 13)) 3,
       sop nb 136 (.move (.tmp 17)) 3,
       sop nb 137 (.binOp .add 3 (.tmp 135) (.tmp 136) 3) 3,
       sop nb 138 (.indexAddr 26 (.tmp 127) (.tmp 128)) 0,
       ⟨none, (.store 3 (.tmp 138) (.tmp 134)), 0, none, none⟩,
       sop nb 13 (.assign (.tmp 137)) 3]) (
     .skip))))) (
   .ops [sop nb 107 (.move (.tmp 16)) 3,
     sop nb 108 (.binOp .add 3 (.tmp 107) (.const (.int .i64 1)) 3) 3,
     sop nb 16 (.assign (.tmp 108)) 3])))))) (
 .seq (
 .ops [sop nb 140 (.load 24 (.tmp 7)) 24,
 sop nb 141 (.call { callee := .value (.func 46), args := #[(.tmp 140)], argTypes := #[24] }) 24,
 sop nb 142 (.move (.tmp 8)) 25,
 sop nb 143 (.call { callee := .value (.func 51), args := #[(.tmp 142)], argTypes := #[25] }) 25,
 sop nb 144 (.move (.tmp 11)) 26,
 sop nb 145 (.call { callee := .value (.func 17), args := #[(.tmp 144)], argTypes := #[26] }) 26,
 sop nb 146 (.move (.tmp 13)) 3,
 sop nb 147 (.call { callee := .value (.func 37), args := #[(.tmp 141), (.tmp 143), (.tmp 145), (.tmp 146)], argTypes := #[24, 25, 26, 3] }) 60,
 sop nb 139 (.move (.tmp 147)) 60,
 sop nb 148 (.extract (.tmp 139) 0) 25,
 sop nb 149 (.extract (.tmp 139) 1) 34,
 sop nb 18 (.assign (.tmp 148)) 25,
 sop nb 19 (.assign (.tmp 149)) 34]) (
 .seq (
 .ops [sop nb 151 (.load 24 (.tmp 7)) 24,
 sop nb 152 (.call { callee := .value (.func 46), args := #[(.tmp 151)], argTypes := #[24] }) 24,
 sop nb 153 (.move (.tmp 8)) 25,
 sop nb 154 (.call { callee := .value (.func 51), args := #[(.tmp 153)], argTypes := #[25] }) 25,
 sop nb 155 (.move (.tmp 11)) 26,
 sop nb 156 (.call { callee := .value (.func 17), args := #[(.tmp 155)], argTypes := #[26] }) 26,
 sop nb 157 (.move (.tmp 13)) 3,
 sop nb 158 (.call { callee := .value (.func 38), args := #[(.tmp 152), (.tmp 154), (.tmp 156), (.tmp 157)], argTypes := #[24, 25, 26, 3] }) 62,
 sop nb 150 (.move (.tmp 158)) 62,
 sop nb 159 (.extract (.tmp 150) 0) 26,
 sop nb 160 (.extract (.tmp 150) 1) 26,
 sop nb 161 (.extract (.tmp 150) 2) 34,
 sop nb 20 (.assign (.tmp 159)) 26,
 sop nb 21 (.assign (.tmp 160)) 26,
 sop nb 22 (.assign (.tmp 161)) 34]) (
 .seq (
 .ops [sop nb 163 (.load 24 (.tmp 7)) 24,
 sop nb 164 (.call { callee := .value (.func 46), args := #[(.tmp 163)], argTypes := #[24] }) 24,
 sop nb 165 (.move (.tmp 8)) 25,
 sop nb 166 (.call { callee := .value (.func 51), args := #[(.tmp 165)], argTypes := #[25] }) 25,
 sop nb 167 (.move (.tmp 11)) 26,
 sop nb 168 (.call { callee := .value (.func 17), args := #[(.tmp 167)], argTypes := #[26] }) 26,
 sop nb 169 (.move (.tmp 13)) 3,
 sop nb 170 (.binOp .add 3 (.tmp 169) (.const (.int .i64 1)) 3) 3,
 sop nb 171 (.call { callee := .value (.func 37), args := #[(.tmp 164), (.tmp 166), (.tmp 168), (.tmp 170)], argTypes := #[24, 25, 26, 3] }) 60,
 sop nb 162 (.move (.tmp 171)) 60,
 sop nb 172 (.extract (.tmp 162) 0) 25,
 sop nb 173 (.extract (.tmp 162) 1) 34,
 sop nb 23 (.assign (.tmp 172)) 25,
 sop nb 24 (.assign (.tmp 173)) 34]) (
 .seq (
 .seq (
 .ops [sop nb 174 (.move (.tmp 19)) 34,
 sop nb 175 (.binOp .neq 34 (.tmp 174) (.const (.int .i64 0)) 34) 4,
 sop nb 176 (.move (.tmp 175)) 4,
   ⟨some 177, (.move (.tmp 22)), 34, some (176, false), some (nb + 177)⟩,
   ⟨some 178, (.binOp .neq 34 (.tmp 177) (.const (.int .i64 0)) 34), 4, some (176, false), some (nb + 178)⟩,
 sop nb 179 (.pick (.tmp 176) (.const (.bool true)) (.tmp 178)) 4,
 sop nb 180 (.move (.tmp 179)) 4,
   ⟨some 181, (.move (.tmp 24)), 34, some (180, false), some (nb + 181)⟩,
   ⟨some 182, (.binOp .neq 34 (.tmp 181) (.const (.int .i64 0)) 34), 4, some (180, false), some (nb + 182)⟩,
 sop nb 183 (.pick (.tmp 180) (.const (.bool true)) (.tmp 182)) 4,
 sop nb 184 (.move (.tmp 183)) 4,
   ⟨some 185, (.move (.tmp 23)), 25, some (184, false), some (nb + 185)⟩,
   ⟨some 186, (.call { callee := .builtin .len, args := #[(.tmp 185)], argTypes := #[25] }), 3, some (184, false), some (nb + 186)⟩,
   ⟨some 187, (.move (.tmp 18)), 25, some (184, false), some (nb + 187)⟩,
   ⟨some 188, (.call { callee := .builtin .len, args := #[(.tmp 187)], argTypes := #[25] }), 3, some (184, false), some (nb + 188)⟩,
   ⟨some 189, (.binOp .lss 3 (.tmp 186) (.tmp 188) 3), 4, some (184, false), some (nb + 189)⟩,
 sop nb 190 (.pick (.tmp 184) (.const (.bool true)) (.tmp 189)) 4]) (
 .cond (.tmp 190) (
  .seq (
  .ops [sop nb 6 (.assign (.const (.bool false))) 4]) (
  .ret)) (
  .skip))) (
 .seq (
 .ops [sop nb 25 (.assign (.const (.bool false))) 4]) (
 .seq (
 .seq (
 .ops [sop nb 26 (.assign (.const (.int .i64 0))) 3]) (
 .block 8 (
  .loop (
   .seq (
   .seq (
   .ops [sop nb 191 (.move (.tmp 26)) 3,
     sop nb 192 (.move (.tmp 18)) 25,
     sop nb 193 (.call { callee := .builtin .len, args := #[(.tmp 192)], argTypes := #[25] }) 3,
     sop nb 194 (.binOp .lss 3 (.tmp 191) (.tmp 193) 3) 4]) (
   .cond (.tmp 194) (
    .skip) (
    .exit 8))) (
   .seq (
   .block 9 (
    .seq (
    .ops [sop nb 197 (.move (.tmp 18)) 25,
      sop nb 198 (.move (.tmp 26)) 3,
      sop nb 199 (.indexAddr 25 (.tmp 197) (.tmp 198)) 0,
      sop nb 200 (.load 26 (.tmp 199)) 26,
      sop nb 201 (.call { callee := .builtin .len, args := #[(.tmp 200)], argTypes := #[26] }) 3,
      sop nb 202 (.move (.tmp 12)) 26,
      sop nb 203 (.call { callee := .builtin .len, args := #[(.tmp 202)], argTypes := #[26] }) 3,
      sop nb 204 (.binOp .eql 3 (.tmp 201) (.tmp 203) 3) 4,
      sop nb 27 (.assign (.tmp 204)) 4]) (
    .seq (
    .seq (
    .ops [sop nb 28 (.assign (.const (.int .i64 0))) 3]) (
    .block 10 (
     .loop (
      .seq (
      .seq (
      .ops [sop nb 205 (.move (.tmp 28)) 3,
        sop nb 206 (.move (.tmp 18)) 25,
        sop nb 207 (.move (.tmp 26)) 3,
        sop nb 208 (.indexAddr 25 (.tmp 206) (.tmp 207)) 0,
        sop nb 209 (.load 26 (.tmp 208)) 26,
        sop nb 210 (.call { callee := .builtin .len, args := #[(.tmp 209)], argTypes := #[26] }) 3,
        sop nb 211 (.binOp .lss 3 (.tmp 205) (.tmp 210) 3) 4]) (
      .cond (.tmp 211) (
       .skip) (
       .exit 10))) (
      .seq (
      .block 11 (
       .seq (
       .seq (
       .ops [sop nb 214 (.move (.tmp 18)) 25,
         sop nb 215 (.move (.tmp 26)) 3,
         sop nb 216 (.indexAddr 25 (.tmp 214) (.tmp 215)) 0,
         sop nb 217 (.load 26 (.tmp 216)) 26,
         sop nb 218 (.move (.tmp 28)) 3,
         sop nb 219 (.indexAddr 26 (.tmp 217) (.tmp 218)) 0,
         sop nb 220 (.load 3 (.tmp 219)) 3,
         sop nb 221 (.binOp .lss 3 (.tmp 220) (.const (.int .i64 0)) 3) 4,
         sop nb 222 (.move (.tmp 221)) 4,
         ⟨some 223, (.move (.tmp 18)), 25, some (222, false), some (nb + 223)⟩,
         ⟨some 224, (.move (.tmp 26)), 3, some (222, false), some (nb + 224)⟩,
         ⟨some 225, (.indexAddr 25 (.tmp 223) (.tmp 224)), 0, some (222, false), some (nb + 225)⟩,
         ⟨some 226, (.load 26 (.tmp 225)), 26, some (222, false), some (nb + 226)⟩,
         ⟨some 227, (.move (.tmp 28)), 3, some (222, false), some (nb + 227)⟩,
         ⟨some 228, (.indexAddr 26 (.tmp 226) (.tmp 227)), 0, some (222, false), some (nb + 228)⟩,
         ⟨some 229, (.load 3 (.tmp 228)), 3, some (222, false), some (nb + 229)⟩,
         ⟨some 230, (.move (.tmp 9)), 3, some (222, false), some (nb + 230)⟩,
         ⟨some 231, (.binOp .geq 3 (.tmp 229) (.tmp 230) 3), 4, some (222, false), some (nb + 231)⟩,
         sop nb 232 (.pick (.tmp 222) (.const (.bool true)) (.tmp 231)) 4,
         sop nb 233 (.move (.tmp 232)) 4,
         ⟨some 234, (.move (.tmp 28)), 3, some (233, false), some (nb + 234)⟩,
         ⟨some 235, (.binOp .gtr 3 (.tmp 234) (.const (.int .i64 0)) 3), 4, some (233, false), some (nb + 235)⟩,
         ⟨some 236, (.move (.tmp 235)), 4, some (233, false), some (nb + 236)⟩,
         ⟨some 237, (.move (.tmp 18)), 25, some (236, true), some (nb + 237)⟩,
         ⟨some 238, (.move (.tmp 26)), 3, some (236, true), some (nb + 238)⟩,
         ⟨some 239, (.indexAddr 25 (.tmp 237) (.tmp 238)), 0, some (236, true), some (nb + 239)⟩,
         ⟨some 240, (.load 26 (.tmp 239)), 26, some (236, true), some (nb + 240)⟩,
         ⟨some 241, (.move (.tmp 28)), 3, some (236, true), some (nb + 241)⟩,
         ⟨some 242, (.indexAddr 26 (.tmp 240) (.tmp 241)), 0, some (236, true), some (nb + 242)⟩,
         ⟨some 243, (.load 3 (.tmp 242)), 3, some (236, true), some (nb + 243)⟩,
         ⟨some 244, (.move (.tmp 18)), 25, some (236, true), some (nb + 244)⟩,
         ⟨some 245, (.move (.tmp 26)), 3, some (236, true), some (nb + 245)⟩,
         ⟨some 246, (.indexAddr 25 (.tmp 244) (.tmp 245)), 0, some (236, true), some (nb + 246)⟩,
         ⟨some 247, (.load 26 (.tmp 246)), 26, some (236, true), some (nb + 247)⟩,
         ⟨some 248, (.move (.tmp 28)), 3, some (236, true), some (nb + 248)⟩,
         ⟨some 249, (.binOp .sub 3 (.tmp 248) (.const (.int .i64 1)) 3), 3, some (236, true), some (nb + 249)⟩,
         ⟨some 250, (.indexAddr 26 (.tmp 247) (.tmp 249)), 0, some (236, true), some (nb + 250)⟩,
         ⟨some 251, (.load 3 (.tmp 250)), 3, some (236, true), some (nb + 251)⟩,
         ⟨some 252, (.binOp .leq 3 (.tmp 243) (.tmp 251) 3), 4, some (236, true), some (nb + 252)⟩,
         ⟨some 253, (.pick (.tmp 236) (.tmp 252) (.const (.bool false))), 4, some (233, false), some (nb + 253)⟩,
         sop nb 254 (.pick (.tmp 233) (.const (.bool true)) (.tmp 253)) 4,
         sop nb 255 (.move (.tmp 254)) 4,
         ⟨some 256, (.move (.tmp 21)), 26, some (255, false), some (nb + 256)⟩,
         ⟨some 257, (.move (.tmp 18)), 25, some (255, false), some (nb + 257)⟩,
         ⟨some 258, (.move (.tmp 26)), 3, some (255, false), some (nb + 258)⟩,
         ⟨some 259, (.indexAddr 25 (.tmp 257) (.tmp 258)), 0, some (255, false), some (nb + 259)⟩,
         ⟨some 260, (.load 26 (.tmp 259)), 26, some (255, false), some (nb + 260)⟩,
         ⟨some 261, (.move (.tmp 28)), 3, some (255, false), some (nb + 261)⟩,
         ⟨some 262, (.indexAddr 26 (.tmp 260) (.tmp 261)), 0, some (255, false), some (nb + 262)⟩,
         ⟨some 263, (.load 3 (.tmp 262)), 3, some (255, false), some (nb + 263)⟩,
         ⟨some 264, (.call { callee := .value (.func 49), args := #[(.tmp 256), (.tmp 263)], argTypes := #[26, 3] }), 4, some (255, false), some (nb + 264)⟩,
         ⟨some 265, (.unOp .not 4 (.tmp 264)), 4, some (255, false), some (nb + 265)⟩,
         sop nb 266 (.pick (.tmp 255) (.const (.bool true)) (.tmp 265)) 4]) (
       .cond (.tmp 266) (
        .seq (
        .ops [sop nb 6 (.assign (.const (.bool false))) 4]) (
        .ret)) (
        .skip))) (
       .ops [sop nb 267 (.move (.tmp 27)) 4,
         sop nb 268 (.move (.tmp 267)) 4,
         ⟨some 269, (.move (.tmp 18)), 25, some (268, true), some (nb + 269)⟩,
         ⟨some 270, (.move (.tmp 26)), 3, some (268, true), some (nb + 270)⟩,
         ⟨some 271, (.indexAddr 25 (.tmp 269) (.tmp 270)), 0, some (268, true), some (nb + 271)⟩,
         ⟨some 272, (.load 26 (.tmp 271)), 26, some (268, true), some (nb + 272)⟩,
         ⟨some 273, (.move (.tmp 28)), 3, some (268, true), some (nb + 273)⟩,
         ⟨some 274, (.indexAddr 26 (.tmp 272) (.tmp 273)), 0, some (268, true), some (nb + 274)⟩,
         ⟨some 275, (.load 3 (.tmp 274)), 3, some (268, true), some (nb + 275)⟩,
         ⟨some 276, (.move (.tmp 12)), 26, some (268, true), some (nb + 276)⟩,
         ⟨some 277, (.move (.tmp 28)), 3, some (268, true), some (nb + 277)⟩,
         ⟨some 278, (.move (.tmp 12)), 26, some (268, true), some (nb + 278)⟩,
         ⟨some 279, (.call { callee := .builtin .len, args := #[(.tmp 278)], argTypes := #[26] }), 3, some (268, true), some (nb + 279)⟩,
         ⟨some 280, (.binOp .sub 3 (.tmp 279) (.const (.int .i64 1)) 3), 3, some (268, true), some (nb + 280)⟩,
         ⟨some 281, (.call { callee := .builtin .min, args := #[(.tmp 277), (.tmp 280)], argTypes := #[3, 3] }), 3, some (268, true), some (nb + 281)⟩,
         ⟨some 282, (.indexAddr 26 (.tmp 276) (.tmp 281)), 0, some (268, true), some (nb + 282)⟩,
         ⟨some 283, (.load 3 (.tmp 282)), 3, some (268, true), some (nb + 283)⟩,
         ⟨some 284, (.binOp .eql 3 (.tmp 275) (.tmp 283) 3), 4, some (268, true), some (nb + 284)⟩,
         sop nb 285 (.pick (.tmp 268) (.tmp 284) (.const (.bool false))) 4,
         sop nb 27 (.assign (.tmp 285)) 4]))) (
      .ops [sop nb 212 (.move (.tmp 28)) 3,
        sop nb 213 (.binOp .add 3 (.tmp 212) (.const (.int .i64 1)) 3) 3,
        sop nb 28 (.assign (.tmp 213)) 3])))))) (
    .seq (
    .seq (
    .ops [sop nb 29 (.assign (.const (.int .i64 0))) 3]) (
    .block 12 (
     .loop (
      .seq (
      .seq (
      .ops [sop nb 286 (.move (.tmp 29)) 3,
        sop nb 287 (.move (.tmp 20)) 26,
        sop nb 288 (.call { callee := .builtin .len, args := #[(.tmp 287)], argTypes := #[26] }) 3,
        sop nb 289 (.binOp .lss 3 (.tmp 286) (.tmp 288) 3) 4]) (
      .cond (.tmp 289) (
       .skip) (
       .exit 12))) (
      .seq (
      .block 13 (
       .seq (
       .ops [sop nb 292 (.move (.tmp 18)) 25,
         sop nb 293 (.move (.tmp 26)) 3,
         sop nb 294 (.indexAddr 25 (.tmp 292) (.tmp 293)) 0,
         sop nb 295 (.load 26 (.tmp 294)) 26,
         sop nb 296 (.move (.tmp 20)) 26,
         sop nb 297 (.move (.tmp 29)) 3,
         sop nb 298 (.indexAddr 26 (.tmp 296) (.tmp 297)) 0,
         sop nb 299 (.load 3 (.tmp 298)) 3,
         sop nb 300 (.call { callee := .value (.func 49), args := #[(.tmp 295), (.tmp 299)], argTypes := #[26, 3] }) 4,
         sop nb 301 (.unOp .not 4 (.tmp 300)) 4]) (
       .cond (.tmp 301) (
        .seq (
        .ops [sop nb 6 (.assign (.const (.bool false))) 4]) (
        .ret)) (
        .skip)))) (
      .ops [sop nb 290 (.move (.tmp 29)) 3,
        sop nb 291 (.binOp .add 3 (.tmp 290) (.const (.int .i64 1)) 3) 3,
        sop nb 29 (.assign (.tmp 291)) 3])))))) (
    .ops [sop nb 302 (.move (.tmp 25)) 4,
      sop nb 303 (.move (.tmp 302)) 4,
      ⟨some 304, (.move (.tmp 27)), 4, some (303, false), some (nb + 304)⟩,
      sop nb 305 (.pick (.tmp 303) (.const (.bool true)) (.tmp 304)) 4,
      sop nb 25 (.assign (.tmp 305)) 4]))))) (
   .ops [sop nb 195 (.move (.tmp 26)) 3,
     sop nb 196 (.binOp .add 3 (.tmp 195) (.const (.int .i64 1)) 3) 3,
     sop nb 26 (.assign (.tmp 196)) 3])))))) (
 .seq (
 .seq (
 .ops [sop nb 30 (.assign (.const (.int .i64 0))) 3]) (
 .block 14 (
  .loop (
   .seq (
   .seq (
   .ops [sop nb 306 (.move (.tmp 30)) 3,
     sop nb 307 (.move (.tmp 20)) 26,
     sop nb 308 (.call { callee := .builtin .len, args := #[(.tmp 307)], argTypes := #[26] }) 3,
     sop nb 309 (.binOp .lss 3 (.tmp 306) (.tmp 308) 3) 4]) (
   .cond (.tmp 309) (
    .skip) (
    .exit 14))) (
   .seq (
   .block 15 (
    .seq (
    .ops [sop nb 312 (.move (.tmp 12)) 26,
      sop nb 313 (.move (.tmp 20)) 26,
      sop nb 314 (.move (.tmp 30)) 3,
      sop nb 315 (.indexAddr 26 (.tmp 313) (.tmp 314)) 0,
      sop nb 316 (.load 3 (.tmp 315)) 3,
      sop nb 317 (.call { callee := .value (.func 49), args := #[(.tmp 312), (.tmp 316)], argTypes := #[26, 3] }) 4,
      sop nb 318 (.unOp .not 4 (.tmp 317)) 4]) (
    .cond (.tmp 318) (
     .seq (
     .ops [sop nb 6 (.assign (.const (.bool false))) 4]) (
     .ret)) (
     .skip)))) (
   .ops [sop nb 310 (.move (.tmp 30)) 3,
     sop nb 311 (.binOp .add 3 (.tmp 310) (.const (.int .i64 1)) 3) 3,
     sop nb 30 (.assign (.tmp 311)) 3])))))) (
 .seq (
 .seq (
 .ops [sop nb 31 (.assign (.const (.int .i64 0))) 3]) (
 .block 16 (
  .loop (
   .seq (
   .seq (
   .ops [sop nb 319 (.move (.tmp 31)) 3,
     sop nb 320 (.move (.tmp 12)) 26,
     sop nb 321 (.call { callee := .builtin .len, args := #[(.tmp 320)], argTypes := #[26] }) 3,
     sop nb 322 (.binOp .lss 3 (.tmp 319) (.tmp 321) 3) 4]) (
   .cond (.tmp 322) (
    .skip) (
    .exit 16))) (
   .seq (
   .block 17 (
    .seq (
    .ops [sop nb 325 (.move (.tmp 21)) 26,
      sop nb 326 (.move (.tmp 12)) 26,
      sop nb 327 (.move (.tmp 31)) 3,
      sop nb 328 (.indexAddr 26 (.tmp 326) (.tmp 327)) 0,
      sop nb 329 (.load 3 (.tmp 328)) 3,
      sop nb 330 (.call { callee := .value (.func 49), args := #[(.tmp 325), (.tmp 329)], argTypes := #[26, 3] }) 4,
      sop nb 331 (.unOp .not 4 (.tmp 330)) 4]) (
    .cond (.tmp 331) (
     .seq (
     .ops [sop nb 6 (.assign (.const (.bool false))) 4]) (
     .ret)) (
     .skip)))) (
   .ops [sop nb 323 (.move (.tmp 31)) 3,
     sop nb 324 (.binOp .add 3 (.tmp 323) (.const (.int .i64 1)) 3) 3,
     sop nb 31 (.assign (.tmp 324)) 3])))))) (
 .seq (
 .ops [sop nb 332 (.move (.tmp 25)) 4,
 sop nb 333 (.move (.tmp 332)) 4,
   ⟨some 334, (.call { callee := .value (.func 14), args := #[], argTypes := #[] }), 4, some (333, true), some (nb + 334)⟩,
 sop nb 335 (.pick (.tmp 333) (.tmp 334) (.const (.bool false))) 4,
 sop nb 6 (.assign (.tmp 335)) 4]) (
 .ret))))))))))))))))
@[go_sem] theorem rs11 : Go.Proofs.Try.f11.results.toList = [.tmp 6] := by kernel_rfl
theorem en11 : Enters Q 11 := enters_of Go.Proofs.Try.func11 rfl (by kernel_rfl)
theorem k11 (nb : Nat) : sk nb Go.Proofs.Try.f11.ntmps (Go.Proofs.Try.f11.body.getD .skip) = some (c11 nb) := by kernel_rfl
end S07

