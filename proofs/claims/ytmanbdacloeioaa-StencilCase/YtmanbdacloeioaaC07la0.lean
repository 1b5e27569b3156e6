/- A part of the proof: C07la0. -/
import Derived.Test.YtmanbdacloeioaaF07
set_option linter.unusedVariables false
set_option linter.unusedSimpArgs false
set_option maxRecDepth 20000
namespace S07
open Go Abs
/-- smalto/smaltolaw07.StencilCase -/
noncomputable def c9 (nb : Nat) : SC :=
 .seq (
 .ops [sop nb 3 (.box 71 (.tmp 0)) 0,
 sop nb 5 (.box 95 (.tmp 2)) 0,
 sop nb 6 (.assign (.const (.bool false))) 4]) (
 .seq (
 .ops [sop nb 25 (.load 71 (.tmp 3)) 71,
 sop nb 26 (.call { callee := .value (.func 42), args := #[(.tmp 25)], argTypes := #[71] }) 24,
 sop nb 7 (.alloc 24) 0,
   ⟨none, (.store 24 (.tmp 7) (.tmp 26)), 0, none, none⟩]) (
 .seq (
 .opsD [sop nb 27 (.load 24 (.tmp 7)) 24,
 sop nb 28 (.move (.tmp 1)) 72,
 sop nb 29 (.call { callee := .value (.func 43), args := #[(.tmp 27), (.tmp 28)], argTypes := #[24, 72] }) 26,
 sop nb 30 (.load 24 (.tmp 7)) 24,
 sop nb 31 (.load 95 (.tmp 5)) 95,
 sop nb 32 (.call { callee := .value (.func 53), args := #[(.tmp 30), (.tmp 31)], argTypes := #[24, 95] }) 26,
 sop nb 8 (.assign (.tmp 29)) 26,
 sop nb 9 (.assign (.tmp 32)) 26] [(2, 3), (2, 4)]) (
 .seq (
 .ops [sop nb 34 (.load 24 (.tmp 7)) 24,
 sop nb 35 (.call { callee := .value (.func 46), args := #[(.tmp 34)], argTypes := #[24] }) 24,
 sop nb 36 (.move (.tmp 9)) 26,
 sop nb 37 (.call { callee := .value (.func 17), args := #[(.tmp 36)], argTypes := #[26] }) 26,
 sop nb 38 (.move (.tmp 8)) 26,
 sop nb 39 (.call { callee := .value (.func 17), args := #[(.tmp 38)], argTypes := #[26] }) 26,
 sop nb 40 (.call { callee := .value (.func 29), args := #[(.tmp 35), (.tmp 37), (.tmp 39)], argTypes := #[24, 26, 26] }) 35,
 sop nb 33 (.move (.tmp 40)) 35,
 sop nb 41 (.extract (.tmp 33) 0) 26,
 sop nb 42 (.extract (.tmp 33) 1) 34,
 sop nb 10 (.assign (.tmp 41)) 26,
 sop nb 11 (.assign (.tmp 42)) 34]) (
 .seq (
 .ops [sop nb 44 (.load 24 (.tmp 7)) 24,
 sop nb 45 (.call { callee := .value (.func 46), args := #[(.tmp 44)], argTypes := #[24] }) 24,
 sop nb 46 (.move (.tmp 9)) 26,
 sop nb 47 (.call { callee := .value (.func 17), args := #[(.tmp 46)], argTypes := #[26] }) 26,
 sop nb 48 (.move (.tmp 8)) 26,
 sop nb 49 (.call { callee := .value (.func 17), args := #[(.tmp 48)], argTypes := #[26] }) 26,
 sop nb 50 (.call { callee := .value (.func 30), args := #[(.tmp 45), (.tmp 47), (.tmp 49)], argTypes := #[24, 26, 26] }) 35,
 sop nb 43 (.move (.tmp 50)) 35,
 sop nb 51 (.extract (.tmp 43) 0) 26,
 sop nb 52 (.extract (.tmp 43) 1) 34,
 sop nb 12 (.assign (.tmp 51)) 26,
 sop nb 13 (.assign (.tmp 52)) 34]) (
 .seq (
 .seq (
 .ops [sop nb 53 (.move (.tmp 11)) 34,
 sop nb 54 (.binOp .eql 34 (.tmp 53) (.const (.int .i64 0)) 34) 4,
 sop nb 55 (.move (.tmp 13)) 34,
 sop nb 56 (.binOp .eql 34 (.tmp 55) (.const (.int .i64 6)) 34) 4,
 sop nb 57 (.binOp .neq 4 (.tmp 54) (.tmp 56) 4) 4,
 sop nb 58 (.move (.tmp 57)) 4,
   ⟨some 59, (.move (.tmp 11)), 34, some (58, false), some (nb + 59)⟩,
   ⟨some 60, (.binOp .neq 34 (.tmp 59) (.const (.int .i64 0)) 34), 4, some (58, false), some (nb + 60)⟩,
   ⟨some 61, (.move (.tmp 60)), 4, some (58, false), some (nb + 61)⟩,
   ⟨some 62, (.move (.tmp 11)), 34, some (61, true), some (nb + 62)⟩,
   ⟨some 63, (.binOp .neq 34 (.tmp 62) (.const (.int .i64 7)) 34), 4, some (61, true), some (nb + 63)⟩,
   ⟨some 64, (.move (.tmp 63)), 4, some (61, true), some (nb + 64)⟩,
   ⟨some 65, (.move (.tmp 10)), 26, some (64, false), some (nb + 65)⟩,
   ⟨some 66, (.call { callee := .builtin .len, args := #[(.tmp 65)], argTypes := #[26] }), 3, some (64, false), some (nb + 66)⟩,
   ⟨some 67, (.binOp .neq 3 (.tmp 66) (.const (.int .i64 0)) 3), 4, some (64, false), some (nb + 67)⟩,
   ⟨some 68, (.pick (.tmp 64) (.const (.bool true)) (.tmp 67)), 4, some (61, true), some (nb + 68)⟩,
   ⟨some 69, (.pick (.tmp 61) (.tmp 68) (.const (.bool false))), 4, some (58, false), some (nb + 69)⟩,
 sop nb 70 (.pick (.tmp 58) (.const (.bool true)) (.tmp 69)) 4,
 sop nb 71 (.move (.tmp 70)) 4,
   ⟨some 72, (.move (.tmp 13)), 34, some (71, false), some (nb + 72)⟩,
   ⟨some 73, (.binOp .neq 34 (.tmp 72) (.const (.int .i64 0)) 34), 4, some (71, false), some (nb + 73)⟩,
   ⟨some 74, (.move (.tmp 73)), 4, some (71, false), some (nb + 74)⟩,
   ⟨some 75, (.move (.tmp 13)), 34, some (74, true), some (nb + 75)⟩,
   ⟨some 76, (.binOp .neq 34 (.tmp 75) (.const (.int .i64 6)) 34), 4, some (74, true), some (nb + 76)⟩,
   ⟨some 77, (.move (.tmp 76)), 4, some (74, true), some (nb + 77)⟩,
   ⟨some 78, (.move (.tmp 12)), 26, some (77, false), some (nb + 78)⟩,
   ⟨some 79, (.call { callee := .builtin .len, args := #[(.tmp 78)], argTypes := #[26] }), 3, some (77, false), some (nb + 79)⟩,
   ⟨some 80, (.binOp .neq 3 (.tmp 79) (.const (.int .i64 0)) 3), 4, some (77, false), some (nb + 80)⟩,
   ⟨some 81, (.pick (.tmp 77) (.const (.bool true)) (.tmp 80)), 4, some (74, true), some (nb + 81)⟩,
   ⟨some 82, (.pick (.tmp 74) (.tmp 81) (.const (.bool false))), 4, some (71, false), some (nb + 82)⟩,
 sop nb 83 (.pick (.tmp 71) (.const (.bool true)) (.tmp 82)) 4,
 sop nb 84 (.move (.tmp 83)) 4,
   ⟨some 85, (.move (.tmp 13)), 34, some (84, false), some (nb + 85)⟩,
   ⟨some 86, (.binOp .eql 34 (.tmp 85) (.const (.int .i64 0)) 34), 4, some (84, false), some (nb + 86)⟩,
   ⟨some 87, (.move (.tmp 86)), 4, some (84, false), some (nb + 87)⟩,
   ⟨some 88, (.move (.tmp 12)), 26, some (87, true), some (nb + 88)⟩,
   ⟨some 89, (.call { callee := .builtin .len, args := #[(.tmp 88)], argTypes := #[26] }), 3, some (87, true), some (nb + 89)⟩,
   ⟨some 90, (.binOp .eql 3 (.tmp 89) (.const (.int .i64 0)) 3), 4, some (87, true), some (nb + 90)⟩,
   ⟨some 91, (.pick (.tmp 87) (.tmp 90) (.const (.bool false))), 4, some (84, false), some (nb + 91)⟩,
 sop nb 92 (.pick (.tmp 84) (.const (.bool true)) (.tmp 91)) 4]) (
 .cond (.tmp 92) (
  .seq (
  .ops [sop nb 6 (.assign (.const (.bool false))) 4]) (
  .ret)) (
  .skip))) (
 .seq (
 .seq (
 .ops [sop nb 93 (.move (.tmp 11)) 34,
 sop nb 94 (.binOp .eql 34 (.tmp 93) (.const (.int .i64 0)) 34) 4]) (
 .cond (.tmp 94) (
  .seq (
  .ops [sop nb 95 (.move (.tmp 9)) 26,
    sop nb 96 (.call { callee := .value (.func 17), args := #[(.tmp 95)], argTypes := #[26] }) 26,
    sop nb 14 (.assign (.tmp 96)) 26]) (
  .seq (
  .seq (
  .ops [sop nb 97 (.move (.tmp 10)) 26,
    sop nb 98 (.call { callee := .builtin .len, args := #[(.tmp 97)], argTypes := #[26] }) 3,
    sop nb 99 (.move (.tmp 8)) 26,
    sop nb 100 (.call { callee := .builtin .len, args := #[(.tmp 99)], argTypes := #[26] }) 3,
    sop nb 101 (.binOp .neq 3 (.tmp 98) (.tmp 100) 3) 4]) (
  .cond (.tmp 101) (
   .seq (
   .ops [sop nb 6 (.assign (.const (.bool false))) 4]) (
   .ret)) (
   .skip))) (
  .seq (
  .seq (
  .ops [sop nb 15 (.assign (.const (.int .i64 0))) 3]) (
  .block 0 (
   .loop (
    .seq (
    .seq (
    .ops [sop nb 102 (.move (.tmp 15)) 3,
      sop nb 103 (.move (.tmp 8)) 26,
      sop nb 104 (.call { callee := .builtin .len, args := #[(.tmp 103)], argTypes := #[26] }) 3,
      sop nb 105 (.binOp .lss 3 (.tmp 102) (.tmp 104) 3) 4]) (
    .cond (.tmp 105) (
     .skip) (
     .exit 0))) (
    .seq (
    .block 1 (
     .seq (
     .seq (
     .opsD [sop nb 108 (.move (.tmp 10)) 26,
       sop nb 109 (.move (.tmp 15)) 3,
       sop nb 110 (.indexAddr 26 (.tmp 108) (.tmp 109)) 0,
       sop nb 111 (.load 3 (.tmp 110)) 3,
       sop nb 112 (.binOp .lss 3 (.tmp 111) (.const (.int .i64 0)) 3) 4,
       sop nb 113 (.move (.tmp 112)) 4,
       ⟨some 114, (.move (.tmp 10)), 26, some (113, false), some (nb + 114)⟩,
       ⟨some 115, (.move (.tmp 15)), 3, some (113, false), some (nb + 115)⟩,
       ⟨some 116, (.indexAddr 26 (.tmp 114) (.tmp 115)), 0, some (113, false), some (nb + 116)⟩,
       ⟨some 117, (.load 3 (.tmp 116)), 3, some (113, false), some (nb + 117)⟩,
       ⟨some 118, (.fieldAddr 24 (.tmp 7) 0), 0, some (113, false), some (nb + 118)⟩,
       ⟨some 119, (.load 3 (.tmp 118)), 3, some (113, false), some (nb + 119)⟩,
       ⟨some 120, (.binOp .geq 3 (.tmp 117) (.tmp 119) 3), 4, some (113, false), some (nb + 120)⟩,
       sop nb 121 (.pick (.tmp 113) (.const (.bool true)) (.tmp 120)) 4,
       sop nb 122 (.move (.tmp 121)) 4,
       ⟨some 123, (.move (.tmp 10)), 26, some (122, false), some (nb + 123)⟩,
       ⟨some 124, (.move (.tmp 15)), 3, some (122, false), some (nb + 124)⟩,
       ⟨some 125, (.indexAddr 26 (.tmp 123) (.tmp 124)), 0, some (122, false), some (nb + 125)⟩,
       ⟨some 126, (.load 3 (.tmp 125)), 3, some (122, false), some (nb + 126)⟩,
       ⟨some 127, (.move (.tmp 8)), 26, some (122, false), some (nb + 127)⟩,
       ⟨some 128, (.move (.tmp 15)), 3, some (122, false), some (nb + 128)⟩,
       ⟨some 129, (.indexAddr 26 (.tmp 127) (.tmp 128)), 0, some (122, false), some (nb + 129)⟩,
       ⟨some 130, (.load 3 (.tmp 129)), 3, some (122, false), some (nb + 130)⟩,
       ⟨some 131, (.binOp .neq 3 (.tmp 126) (.tmp 130) 3), 4, some (122, false), some (nb + 131)⟩,
       ⟨some 132, (.move (.tmp 131)), 4, some (122, false), some (nb + 132)⟩,
       ⟨some 133, (.load 24 (.tmp 7)), 24, some (132, true), some (nb + 133)⟩,
       ⟨some 134, (.move (.tmp 10)), 26, some (132, true), some (nb + 134)⟩,
       ⟨some 135, (.move (.tmp 15)), 3, some (132, true), some (nb + 135)⟩,
       ⟨some 136, (.indexAddr 26 (.tmp 134) (.tmp 135)), 0, some (132, true), some (nb + 136)⟩,
       ⟨some 137, (.load 3 (.tmp 136)), 3, some (132, true), some (nb + 137)⟩,
       ⟨some 138, (.call { callee := .value (.func 50), args := #[(.tmp 133), (.tmp 137)], argTypes := #[24, 3] }), 3, some (132, true), some (nb + 138)⟩,
       ⟨some 139, (.move (.tmp 8)), 26, some (132, true), some (nb + 139)⟩,
       ⟨some 140, (.move (.tmp 15)), 3, some (132, true), some (nb + 140)⟩,
       ⟨some 141, (.indexAddr 26 (.tmp 139) (.tmp 140)), 0, some (132, true), some (nb + 141)⟩,
       ⟨some 142, (.load 3 (.tmp 141)), 3, some (132, true), some (nb + 142)⟩,
       ⟨some 143, (.binOp .neq 3 (.tmp 138) (.tmp 142) 3), 4, some (132, true), some (nb + 143)⟩,
       ⟨some 144, (.pick (.tmp 132) (.tmp 143) (.const (.bool false))), 4, some (122, false), some (nb + 144)⟩,
       sop nb 145 (.pick (.tmp 122) (.const (.bool true)) (.tmp 144)) 4] [(30, 33), (30, 34)]) (
     .cond (.tmp 145) (
      .seq (
      .ops [sop nb 6 (.assign (.const (.bool false))) 4]) (
      .ret)) (
      .skip))) (
     .seq (
     .ops [sop nb 146 (.move (.tmp 14)) 26,
       sop nb 147 (.move (.tmp 10)) 26,
       sop nb 148 (.move (.tmp 15)) 3,
       sop nb 149 (.indexAddr 26 (.tmp 147) (.tmp 148)) 0,
       sop nb 150 (.load 3 (.tmp 149)) 3,
       sop nb 151 (.indexAddr 26 (.tmp 146) (.tmp 150)) 0,
       sop nb 152 (.load 3 (.tmp 151)) 3,
       sop nb 153 (.binOp .sub 3 (.tmp 152) (.const (.int .i64 1)) 3) 3,
       sop nb 154 (.indexAddr 26 (.tmp 146) (.tmp 150)) 0,
       ⟨none, (.store 3 (.tmp 154) (.tmp 153)), 0, none, none⟩]) (
     .seq (
     .ops [sop nb 155 (.move (.tmp 14)) 26,
       sop nb 156 (.move (.tmp 10)) 26,
       sop nb 157 (.move (.tmp 15)) 3,
       sop nb 158 (.indexAddr 26 (.tmp 156) (.tmp 157)) 0,
       sop nb 159 (.load 3 (.tmp 158)) 3,
       sop nb 160 (.indexAddr 26 (.tmp 155) (.tmp 159)) 0,
       sop nb 161 (.load 3 (.tmp 160)) 3,
       sop nb 162 (.binOp .lss 3 (.tmp 161) (.const (.int .i64 0)) 3) 4]) (
     .cond (.tmp 162) (
      .seq (
      .ops [sop nb 6 (.assign (.const (.bool false))) 4]) (
      .ret)) (
      .skip)))))) (
    .ops [sop nb 106 (.move (.tmp 15)) 3,
      sop nb 107 (.binOp .add 3 (.tmp 106) (.const (.int .i64 1)) 3) 3,
      sop nb 15 (.assign (.tmp 107)) 3])))))) (
  .seq (
  .ops [sop nb 163 (.call { callee := .value (.func 14), args := #[], argTypes := #[] }) 4,
    sop nb 6 (.assign (.tmp 163)) 4]) (
  .ret))))) (
  .skip))) (
 .seq (
 .seq (
 .ops [sop nb 16 (.assign (.const (.int .i64 (-1)))) 3]) (
 .block 2 (
  .loop (
   .seq (
   .seq (
   .ops [sop nb 164 (.move (.tmp 16)) 3,
     sop nb 165 (.move (.tmp 12)) 26,
     sop nb 166 (.call { callee := .builtin .len, args := #[(.tmp 165)], argTypes := #[26] }) 3,
     sop nb 167 (.binOp .lss 3 (.tmp 164) (.tmp 166) 3) 4]) (
   .cond (.tmp 167) (
    .skip) (
    .exit 2))) (
   .seq (
   .block 3 (
    .seq (
    .ops [sop nb 170 (.buildSlice 26 0 #[]) 26,
      sop nb 17 (.assign (.tmp 170)) 26]) (
    .seq (
    .seq (
    .ops [sop nb 18 (.assign (.const (.int .i64 0))) 3]) (
    .block 4 (
     .loop (
      .seq (
      .seq (
      .ops [sop nb 171 (.move (.tmp 18)) 3,
        sop nb 172 (.move (.tmp 8)) 26,
        sop nb 173 (.call { callee := .builtin .len, args := #[(.tmp 172)], argTypes := #[26] }) 3,
        sop nb 174 (.binOp .lss 3 (.tmp 171) (.tmp 173) 3) 4]) (
      .cond (.tmp 174) (
       .skip) (
       .exit 4))) (
      .seq (
      .block 5 (
       .seq (
       .ops [sop nb 177 (.move (.tmp 12)) 26,
         sop nb 178 (.move (.tmp 18)) 3,
         sop nb 179 (.call { callee := .value (.func 49), args := #[(.tmp 177), (.tmp 178)], argTypes := #[26, 3] }) 4,
         sop nb 180 (.unOp .not 4 (.tmp 179)) 4,
         sop nb 181 (.move (.tmp 180)) 4,
         ⟨some 182, (.move (.tmp 16)), 3, some (181, false), some (nb + 182)⟩,
         ⟨some 183, (.binOp .geq 3 (.tmp 182) (.const (.int .i64 0)) 3), 4, some (181, false), some (nb + 183)⟩,
         ⟨some 184, (.move (.tmp 183)), 4, some (181, false), some (nb + 184)⟩,
         ⟨some 185, (.move (.tmp 12)), 26, some (184, true), some (nb + 185)⟩,
         ⟨some 186, (.move (.tmp 16)), 3, some (184, true), some (nb + 186)⟩,
         ⟨some 187, (.indexAddr 26 (.tmp 185) (.tmp 186)), 0, some (184, true), some (nb + 187)⟩,
         ⟨some 188, (.load 3 (.tmp 187)), 3, some (184, true), some (nb + 188)⟩,
         ⟨some 189, (.move (.tmp 18)), 3, some (184, true), some (nb + 189)⟩,
         ⟨some 190, (.binOp .eql 3 (.tmp 188) (.tmp 189) 3), 4, some (184, true), some (nb + 190)⟩,
         ⟨some 191, (.pick (.tmp 184) (.tmp 190) (.const (.bool false))), 4, some (181, false), some (nb + 191)⟩,
         sop nb 192 (.pick (.tmp 181) (.const (.bool true)) (.tmp 191)) 4]) (
       .cond (.tmp 192) (
        .ops [sop nb 193 (.move (.tmp 17)) 26,
          sop nb 194 (.move (.tmp 8)) 26,
          sop nb 195 (.move (.tmp 18)) 3,
          sop nb 196 (.indexAddr 26 (.tmp 194) (.tmp 195)) 0,
          sop nb 197 (.load 3 (.tmp 196)) 3,
          sop nb 198 (.buildSlice 26 1 #[(0, (.tmp 197))]) 26,
          sop nb 199 (.call { callee := .builtin .append, args := #[(.tmp 193), (.tmp 198)], argTypes := #[26, 26] }) 26,
          sop nb 17 (.assign (.tmp 199)) 26]) (
        .skip)))) (
      .ops [sop nb 175 (.move (.tmp 18)) 3,
        sop nb 176 (.binOp .add 3 (.tmp 175) (.const (.int .i64 1)) 3) 3,
        sop nb 18 (.assign (.tmp 176)) 3])))))) (
    .seq (
    .seq (
    .ops [sop nb 200 (.move (.tmp 17)) 26,
      sop nb 201 (.call { callee := .builtin .len, args := #[(.tmp 200)], argTypes := #[26] }) 3,
      sop nb 202 (.binOp .eql 3 (.tmp 201) (.const (.int .i64 0)) 3) 4]) (
    .cond (.tmp 202) (
     .exit 3) (
     .skip))) (
    .seq (
    .ops [sop nb 204 (.load 24 (.tmp 7)) 24,
      sop nb 205 (.call { callee := .value (.func 46), args := #[(.tmp 204)], argTypes := #[24] }) 24,
      sop nb 206 (.move (.tmp 9)) 26,
      sop nb 207 (.call { callee := .value (.func 17), args := #[(.tmp 206)], argTypes := #[26] }) 26,
      sop nb 208 (.move (.tmp 17)) 26,
      sop nb 209 (.call { callee := .value (.func 29), args := #[(.tmp 205), (.tmp 207), (.tmp 208)], argTypes := #[24, 26, 26] }) 35,
      sop nb 203 (.move (.tmp 209)) 35,
      sop nb 210 (.extract (.tmp 203) 0) 26,
      sop nb 211 (.extract (.tmp 203) 1) 34,
      sop nb 19 (.assign (.tmp 210)) 26,
      sop nb 20 (.assign (.tmp 211)) 34]) (
    .seq (
    .ops [sop nb 212 (.move (.tmp 20)) 34,
      sop nb 213 (.binOp .eql 34 (.tmp 212) (.const (.int .i64 0)) 34) 4,
      sop nb 214 (.move (.tmp 16)) 3,
      sop nb 215 (.binOp .lss 3 (.tmp 214) (.const (.int .i64 0)) 3) 4,
      sop nb 216 (.binOp .neq 4 (.tmp 213) (.tmp 215) 4) 4]) (
    .cond (.tmp 216) (
     .seq (
     .ops [sop nb 6 (.assign (.const (.bool false))) 4]) (
     .ret)) (
     .skip)))))))) (
   .ops [sop nb 168 (.move (.tmp 16)) 3,
     sop nb 169 (.binOp .add 3 (.tmp 168) (.const (.int .i64 1)) 3) 3,
     sop nb 16 (.assign (.tmp 169)) 3])))))) (
 .seq (
 .seq (
 .ops [sop nb 21 (.assign (.const (.int .i64 0))) 3]) (
 .block 6 (
  .loop (
   .seq (
   .seq (
   .ops [sop nb 217 (.move (.tmp 21)) 3,
     sop nb 218 (.move (.tmp 12)) 26,
     sop nb 219 (.call { callee := .builtin .len, args := #[(.tmp 218)], argTypes := #[26] }) 3,
     sop nb 220 (.binOp .lss 3 (.tmp 217) (.tmp 219) 3) 4]) (
   .cond (.tmp 220) (
    .skip) (
    .exit 6))) (
   .seq (
   .block 7 (
    .seq (
    .ops [sop nb 223 (.move (.tmp 12)) 26,
      sop nb 224 (.move (.tmp 21)) 3,
      sop nb 225 (.indexAddr 26 (.tmp 223) (.tmp 224)) 0,
      sop nb 226 (.load 3 (.tmp 225)) 3,
      sop nb 227 (.binOp .lss 3 (.tmp 226) (.const (.int .i64 0)) 3) 4,
      sop nb 228 (.move (.tmp 227)) 4,
      ⟨some 229, (.move (.tmp 12)), 26, some (228, false), some (nb + 229)⟩,
      ⟨some 230, (.move (.tmp 21)), 3, some (228, false), some (nb + 230)⟩,
      ⟨some 231, (.indexAddr 26 (.tmp 229) (.tmp 230)), 0, some (228, false), some (nb + 231)⟩,
      ⟨some 232, (.load 3 (.tmp 231)), 3, some (228, false), some (nb + 232)⟩,
      ⟨some 233, (.move (.tmp 8)), 26, some (228, false), some (nb + 233)⟩,
      ⟨some 234, (.call { callee := .builtin .len, args := #[(.tmp 233)], argTypes := #[26] }), 3, some (228, false), some (nb + 234)⟩,
      ⟨some 235, (.binOp .geq 3 (.tmp 232) (.tmp 234) 3), 4, some (228, false), some (nb + 235)⟩,
      sop nb 236 (.pick (.tmp 228) (.const (.bool true)) (.tmp 235)) 4,
      sop nb 237 (.move (.tmp 236)) 4,
      ⟨some 238, (.move (.tmp 21)), 3, some (237, false), some (nb + 238)⟩,
      ⟨some 239, (.binOp .gtr 3 (.tmp 238) (.const (.int .i64 0)) 3), 4, some (237, false), some (nb + 239)⟩,
      ⟨some 240, (.move (.tmp 239)), 4, some (237, false), some (nb + 240)⟩,
      ⟨some 241, (.move (.tmp 12)), 26, some (240, true), some (nb + 241)⟩,
      ⟨some 242, (.move (.tmp 21)), 3, some (240, true), some (nb + 242)⟩,
      ⟨some 243, (.indexAddr 26 (.tmp 241) (.tmp 242)), 0, some (240, true), some (nb + 243)⟩,
      ⟨some 244, (.load 3 (.tmp 243)), 3, some (240, true), some (nb + 244)⟩,
      ⟨some 245, (.move (.tmp 12)), 26, some (240, true), some (nb + 245)⟩,
      ⟨some 246, (.move (.tmp 21)), 3, some (240, true), some (nb + 246)⟩,
      ⟨some 247, (.binOp .sub 3 (.tmp 246) (.const (.int .i64 1)) 3), 3, some (240, true), some (nb + 247)⟩,
      ⟨some 248, (.indexAddr 26 (.tmp 245) (.tmp 247)), 0, some (240, true), some (nb + 248)⟩,
      ⟨some 249, (.load 3 (.tmp 248)), 3, some (240, true), some (nb + 249)⟩,
      ⟨some 250, (.binOp .leq 3 (.tmp 244) (.tmp 249) 3), 4, some (240, true), some (nb + 250)⟩,
      ⟨some 251, (.pick (.tmp 240) (.tmp 250) (.const (.bool false))), 4, some (237, false), some (nb + 251)⟩,
      sop nb 252 (.pick (.tmp 237) (.const (.bool true)) (.tmp 251)) 4]) (
    .cond (.tmp 252) (
     .seq (
     .ops [sop nb 6 (.assign (.const (.bool false))) 4]) (
     .ret)) (
     .skip)))) (
   .ops [sop nb 221 (.move (.tmp 21)) 3,
     sop nb 222 (.binOp .add 3 (.tmp 221) (.const (.int .i64 1)) 3) 3,
     sop nb 21 (.assign (.tmp 222)) 3])))))) (
 .seq (
 .ops [sop nb 253 (.move (.tmp 9)) 26,
 sop nb 254 (.call { callee := .value (.func 17), args := #[(.tmp 253)], argTypes := #[26] }) 26,
 sop nb 22 (.assign (.tmp 254)) 26]) (
 .seq (
 .seq (
 .ops [sop nb 255 (.move (.tmp 22)) 26,
 sop nb 256 (.move (.tmp 8)) 26,
 sop nb 257 (.move (.tmp 12)) 26,
 sop nb 258 (.indexAddr 26 (.tmp 257) (.const (.int .i64 0))) 0,
 sop nb 259 (.load 3 (.tmp 258)) 3,
 sop nb 260 (.indexAddr 26 (.tmp 256) (.tmp 259)) 0,
 sop nb 261 (.load 3 (.tmp 260)) 3,
 sop nb 262 (.indexAddr 26 (.tmp 255) (.tmp 261)) 0,
 sop nb 263 (.load 3 (.tmp 262)) 3,
 sop nb 264 (.binOp .add 3 (.tmp 263) (.const (.int .i64 1)) 3) 3,
 sop nb 265 (.indexAddr 26 (.tmp 255) (.tmp 261)) 0,
   ⟨none, (.store 3 (.tmp 265) (.tmp 264)), 0, none, none⟩]) (
 .seq (
 .ops [sop nb 266 (.move (.tmp 22)) 26,
 sop nb 267 (.move (.tmp 8)) 26,
 sop nb 268 (.move (.tmp 12)) 26,
 sop nb 269 (.indexAddr 26 (.tmp 268) (.const (.int .i64 0))) 0,
 sop nb 270 (.load 3 (.tmp 269)) 3,
 sop nb 271 (.indexAddr 26 (.tmp 267) (.tmp 270)) 0,
 sop nb 272 (.load 3 (.tmp 271)) 3,
 sop nb 273 (.indexAddr 26 (.tmp 266) (.tmp 272)) 0,
 sop nb 274 (.load 3 (.tmp 273)) 3,
 sop nb 275 (.binOp .gtr 3 (.tmp 274) (.const (.int .i64 5)) 3) 4]) (
 .cond (.tmp 275) (
  .seq (
  .ops [sop nb 276 (.call { callee := .value (.func 14), args := #[], argTypes := #[] }) 4,
    sop nb 6 (.assign (.tmp 276)) 4]) (
  .ret)) (
  .skip)))) (
 .seq (
 .ops [sop nb 278 (.load 24 (.tmp 7)) 24,
 sop nb 279 (.call { callee := .value (.func 46), args := #[(.tmp 278)], argTypes := #[24] }) 24,
 sop nb 280 (.move (.tmp 22)) 26,
 sop nb 281 (.move (.tmp 8)) 26,
 sop nb 282 (.call { callee := .value (.func 17), args := #[(.tmp 281)], argTypes := #[26] }) 26,
 sop nb 283 (.call { callee := .value (.func 30), args := #[(.tmp 279), (.tmp 280), (.tmp 282)], argTypes := #[24, 26, 26] }) 35,
 sop nb 277 (.move (.tmp 283)) 35,
 sop nb 284 (.extract (.tmp 277) 0) 26,
 sop nb 285 (.extract (.tmp 277) 1) 34,
 sop nb 23 (.assign (.tmp 284)) 26,
 sop nb 24 (.assign (.tmp 285)) 34]) (
 .seq (
 .ops [sop nb 286 (.move (.tmp 24)) 34,
 sop nb 287 (.binOp .eql 34 (.tmp 286) (.const (.int .i64 0)) 34) 4,
 sop nb 288 (.move (.tmp 287)) 4,
   ⟨some 289, (.move (.tmp 24)), 34, some (288, false), some (nb + 289)⟩,
   ⟨some 290, (.binOp .eql 34 (.tmp 289) (.const (.int .i64 6)) 34), 4, some (288, false), some (nb + 290)⟩,
 sop nb 291 (.pick (.tmp 288) (.const (.bool true)) (.tmp 290)) 4,
 sop nb 292 (.move (.tmp 291)) 4,
   ⟨some 293, (.move (.tmp 23)), 26, some (292, true), some (nb + 293)⟩,
   ⟨some 294, (.call { callee := .builtin .len, args := #[(.tmp 293)], argTypes := #[26] }), 3, some (292, true), some (nb + 294)⟩,
   ⟨some 295, (.move (.tmp 12)), 26, some (292, true), some (nb + 295)⟩,
   ⟨some 296, (.call { callee := .builtin .len, args := #[(.tmp 295)], argTypes := #[26] }), 3, some (292, true), some (nb + 296)⟩,
   ⟨some 297, (.binOp .sub 3 (.tmp 296) (.const (.int .i64 1)) 3), 3, some (292, true), some (nb + 297)⟩,
   ⟨some 298, (.binOp .eql 3 (.tmp 294) (.tmp 297) 3), 4, some (292, true), some (nb + 298)⟩,
 sop nb 299 (.pick (.tmp 292) (.tmp 298) (.const (.bool false))) 4,
 sop nb 300 (.move (.tmp 299)) 4,
   ⟨some 301, (.call { callee := .value (.func 14), args := #[], argTypes := #[] }), 4, some (300, true), some (nb + 301)⟩,
 sop nb 302 (.pick (.tmp 300) (.tmp 301) (.const (.bool false))) 4,
 sop nb 6 (.assign (.tmp 302)) 4]) (
 .ret)))))))))))))
@[go_sem] theorem rs9 : Go.Proofs.Try.f9.results.toList = [.tmp 6] := by kernel_rfl
theorem en9 : Enters Q 9 := enters_of Go.Proofs.Try.func9 rfl (by kernel_rfl)
theorem k9 (nb : Nat) : sk nb Go.Proofs.Try.f9.ntmps (Go.Proofs.Try.f9.body.getD .skip) = some (c9 nb) := by kernel_rfl
end S07

