/- A part of the proof: C07lc0. -/
import Derived.Test.YtmanbdacloeioaaF07
set_option linter.unusedVariables false
set_option linter.unusedSimpArgs false
set_option maxRecDepth 20000
namespace S07
open Go Abs
/-- smalto/smaltolaw07.StencilNew -/
noncomputable def c10 (nb : Nat) : SC :=
 .seq (
 .ops [sop nb 3 (.box 71 (.tmp 0)) 0,
 sop nb 5 (.box 95 (.tmp 2)) 0,
 sop nb 6 (.assign (.const (.bool false))) 4]) (
 .seq (
 .ops [sop nb 29 (.load 71 (.tmp 3)) 71,
 sop nb 30 (.call { callee := .value (.func 42), args := #[(.tmp 29)], argTypes := #[71] }) 24,
 sop nb 31 (.buildSlice 25 0 #[]) 25,
 sop nb 7 (.alloc 24) 0,
   ⟨none, (.store 24 (.tmp 7) (.tmp 30)), 0, none, none⟩,
 sop nb 8 (.assign (.tmp 31)) 25]) (
 .seq (
 .seq (
 .ops [sop nb 9 (.assign (.const (.int .i64 0))) 3]) (
 .block 0 (
  .loop (
   .seq (
   .seq (
   .ops [sop nb 32 (.move (.tmp 9)) 3,
     sop nb 33 (.move (.tmp 1)) 98,
     sop nb 34 (.call { callee := .builtin .len, args := #[(.tmp 33)], argTypes := #[98] }) 3,
     sop nb 35 (.binOp .lss 3 (.tmp 32) (.tmp 34) 3) 4,
     sop nb 36 (.move (.tmp 35)) 4,
     ⟨some 37, (.move (.tmp 9)), 3, some (36, true), some (nb + 37)⟩,
     ⟨some 38, (.binOp .lss 3 (.tmp 37) (.const (.int .i64 4)) 3), 4, some (36, true), some (nb + 38)⟩,
     sop nb 39 (.pick (.tmp 36) (.tmp 38) (.const (.bool false))) 4]) (
   .cond (.tmp 39) (
    .skip) (
    .exit 0))) (
   .seq (
   .block 1 (
    .ops [sop nb 42 (.move (.tmp 8)) 25,
      sop nb 43 (.load 24 (.tmp 7)) 24,
      sop nb 44 (.move (.tmp 1)) 98,
      sop nb 45 (.move (.tmp 9)) 3,
      sop nb 46 (.indexAddr 98 (.tmp 44) (.tmp 45)) 0,
      sop nb 47 (.load 72 (.tmp 46)) 72,
      sop nb 48 (.call { callee := .value (.func 43), args := #[(.tmp 43), (.tmp 47)], argTypes := #[24, 72] }) 26,
      sop nb 49 (.buildSlice 25 1 #[(0, (.tmp 48))]) 25,
      sop nb 50 (.call { callee := .builtin .append, args := #[(.tmp 42), (.tmp 49)], argTypes := #[25, 25] }) 25,
      sop nb 8 (.assign (.tmp 50)) 25])) (
   .ops [sop nb 40 (.move (.tmp 9)) 3,
     sop nb 41 (.binOp .add 3 (.tmp 40) (.const (.int .i64 1)) 3) 3,
     sop nb 9 (.assign (.tmp 41)) 3])))))) (
 .seq (
 .ops [sop nb 51 (.load 24 (.tmp 7)) 24,
 sop nb 52 (.load 95 (.tmp 5)) 95,
 sop nb 53 (.call { callee := .value (.func 53), args := #[(.tmp 51), (.tmp 52)], argTypes := #[24, 95] }) 26,
 sop nb 10 (.assign (.tmp 53)) 26]) (
 .seq (
 .seq (
 .ops [sop nb 11 (.assign (.const (.int .i64 0))) 3]) (
 .block 2 (
  .loop (
   .seq (
   .seq (
   .ops [sop nb 54 (.move (.tmp 11)) 3,
     sop nb 55 (.move (.tmp 10)) 26,
     sop nb 56 (.call { callee := .builtin .len, args := #[(.tmp 55)], argTypes := #[26] }) 3,
     sop nb 57 (.binOp .lss 3 (.tmp 54) (.tmp 56) 3) 4]) (
   .cond (.tmp 57) (
    .skip) (
    .exit 2))) (
   .seq (
   .block 3 (
    .ops [sop nb 60 (.move (.tmp 10)) 26,
      sop nb 61 (.move (.tmp 11)) 3,
      sop nb 62 (.indexAddr 26 (.tmp 60) (.tmp 61)) 0,
      sop nb 63 (.load 3 (.tmp 62)) 3,
      sop nb 64 (.binOp .quo 3 (.tmp 63) (.const (.int .i64 2)) 3) 3,
      sop nb 65 (.indexAddr 26 (.tmp 60) (.tmp 61)) 0,
      ⟨none, (.store 3 (.tmp 65) (.tmp 64)), 0, none, none⟩])) (
   .ops [sop nb 58 (.move (.tmp 11)) 3,
     sop nb 59 (.binOp .add 3 (.tmp 58) (.const (.int .i64 1)) 3) 3,
     sop nb 11 (.assign (.tmp 59)) 3])))))) (
 .seq (
 .ops [sop nb 67 (.load 24 (.tmp 7)) 24,
 sop nb 68 (.call { callee := .value (.func 46), args := #[(.tmp 67)], argTypes := #[24] }) 24,
 sop nb 69 (.move (.tmp 10)) 26,
 sop nb 70 (.call { callee := .value (.func 17), args := #[(.tmp 69)], argTypes := #[26] }) 26,
 sop nb 71 (.move (.tmp 8)) 25,
 sop nb 72 (.call { callee := .value (.func 51), args := #[(.tmp 71)], argTypes := #[25] }) 25,
 sop nb 73 (.call { callee := .value (.func 35), args := #[(.tmp 68), (.tmp 70), (.tmp 72)], argTypes := #[24, 26, 25] }) 35,
 sop nb 66 (.move (.tmp 73)) 35,
 sop nb 74 (.extract (.tmp 66) 0) 26,
 sop nb 75 (.extract (.tmp 66) 1) 34,
 sop nb 12 (.assign (.tmp 74)) 26,
 sop nb 13 (.assign (.tmp 75)) 34]) (
 .seq (
 .seq (
 .ops [sop nb 76 (.move (.tmp 13)) 34,
 sop nb 77 (.binOp .neq 34 (.tmp 76) (.const (.int .i64 0)) 34) 4,
 sop nb 78 (.move (.tmp 77)) 4,
   ⟨some 79, (.move (.tmp 12)), 26, some (78, false), some (nb + 79)⟩,
   ⟨some 80, (.call { callee := .builtin .len, args := #[(.tmp 79)], argTypes := #[26] }), 3, some (78, false), some (nb + 80)⟩,
   ⟨some 81, (.fieldAddr 24 (.tmp 7) 0), 0, some (78, false), some (nb + 81)⟩,
   ⟨some 82, (.load 3 (.tmp 81)), 3, some (78, false), some (nb + 82)⟩,
   ⟨some 83, (.binOp .neq 3 (.tmp 80) (.tmp 82) 3), 4, some (78, false), some (nb + 83)⟩,
 sop nb 84 (.pick (.tmp 78) (.const (.bool true)) (.tmp 83)) 4]) (
 .cond (.tmp 84) (
  .seq (
  .ops [sop nb 6 (.assign (.const (.bool false))) 4]) (
  .ret)) (
  .skip))) (
 .seq (
 .ops [sop nb 14 (.assign (.const (.int .i64 0))) 3]) (
 .seq (
 .seq (
 .ops [sop nb 15 (.assign (.const (.int .i64 0))) 3]) (
 .block 4 (
  .loop (
   .seq (
   .seq (
   .ops [sop nb 85 (.move (.tmp 15)) 3,
     sop nb 86 (.move (.tmp 12)) 26,
     sop nb 87 (.call { callee := .builtin .len, args := #[(.tmp 86)], argTypes := #[26] }) 3,
     sop nb 88 (.binOp .lss 3 (.tmp 85) (.tmp 87) 3) 4]) (
   .cond (.tmp 88) (
    .skip) (
    .exit 4))) (
   .seq (
   .block 5 (
    .seq (
    .seq (
    .ops [sop nb 91 (.move (.tmp 12)) 26,
      sop nb 92 (.move (.tmp 15)) 3,
      sop nb 93 (.indexAddr 26 (.tmp 91) (.tmp 92)) 0,
      sop nb 94 (.load 3 (.tmp 93)) 3,
      sop nb 95 (.binOp .lss 3 (.tmp 94) (.const (.int .i64 0)) 3) 4,
      sop nb 96 (.move (.tmp 95)) 4,
      ⟨some 97, (.move (.tmp 12)), 26, some (96, false), some (nb + 97)⟩,
      ⟨some 98, (.move (.tmp 15)), 3, some (96, false), some (nb + 98)⟩,
      ⟨some 99, (.indexAddr 26 (.tmp 97) (.tmp 98)), 0, some (96, false), some (nb + 99)⟩,
      ⟨some 100, (.load 3 (.tmp 99)), 3, some (96, false), some (nb + 100)⟩,
      ⟨some 101, (.binOp .gtr 3 (.tmp 100) (.const (.int .i64 6)) 3), 4, some (96, false), some (nb + 101)⟩,
      sop nb 102 (.pick (.tmp 96) (.const (.bool true)) (.tmp 101)) 4]) (
    .cond (.tmp 102) (
     .seq (
     .ops [sop nb 6 (.assign (.const (.bool false))) 4]) (
     .ret)) (
     .skip))) (
    .ops [sop nb 103 (.move (.tmp 14)) 3,
      sop nb 104 (.move (.tmp 12)) 26,
      sop nb 105 (.move (.tmp 15)) 3,
      sop nb 106 (.indexAddr 26 (.tmp 104) (.tmp 105)) 0,
      sop nb 107 (.load 3 (.tmp 106)) 3,
      sop nb 108 (.binOp .add 3 (.tmp 103) (.tmp 107) 3) 3,
      sop nb 14 (.assign (.tmp 108)) 3]))) (
   .ops [sop nb 89 (.move (.tmp 15)) 3,
     sop nb 90 (.binOp .add 3 (.tmp 89) (.const (.int .i64 1)) 3) 3,
     sop nb 15 (.assign (.tmp 90)) 3])))))) (
 .seq (
 .seq (
 .ops [sop nb 16 (.assign (.const (.int .i64 (-1)))) 3]) (
 .block 6 (
  .loop (
   .seq (
   .seq (
   .ops [sop nb 109 (.move (.tmp 16)) 3,
     sop nb 110 (.move (.tmp 12)) 26,
     sop nb 111 (.call { callee := .builtin .len, args := #[(.tmp 110)], argTypes := #[26] }) 3,
     sop nb 112 (.binOp .lss 3 (.tmp 109) (.tmp 111) 3) 4]) (
   .cond (.tmp 112) (
    .skip) (
    .exit 6))) (
   .seq (
   .block 7 (
    .seq (
    .seq (
    .ops [sop nb 115 (.move (.tmp 16)) 3,
      sop nb 116 (.binOp .geq 3 (.tmp 115) (.const (.int .i64 0)) 3) 4,
      sop nb 117 (.move (.tmp 116)) 4,
      ⟨some 118, (.move (.tmp 12)), 26, some (117, true), some (nb + 118)⟩,
      ⟨some 119, (.move (.tmp 16)), 3, some (117, true), some (nb + 119)⟩,
      ⟨some 120, (.indexAddr 26 (.tmp 118) (.tmp 119)), 0, some (117, true), some (nb + 120)⟩,
      ⟨some 121, (.load 3 (.tmp 120)), 3, some (117, true), some (nb + 121)⟩,
      ⟨some 122, (.binOp .eql 3 (.tmp 121) (.const (.int .i64 0)) 3), 4, some (117, true), some (nb + 122)⟩,
      sop nb 123 (.pick (.tmp 117) (.tmp 122) (.const (.bool false))) 4]) (
    .cond (.tmp 123) (
     .exit 7) (
     .skip))) (
    .seq (
    .ops [sop nb 124 (.buildSlice 26 0 #[]) 26,
      sop nb 17 (.assign (.tmp 124)) 26,
      sop nb 18 (.assign (.const (.bool false))) 4]) (
    .seq (
    .seq (
    .ops [sop nb 19 (.assign (.const (.int .i64 0))) 3]) (
    .block 8 (
     .loop (
      .seq (
      .seq (
      .ops [sop nb 125 (.move (.tmp 19)) 3,
        sop nb 126 (.move (.tmp 10)) 26,
        sop nb 127 (.call { callee := .builtin .len, args := #[(.tmp 126)], argTypes := #[26] }) 3,
        sop nb 128 (.binOp .lss 3 (.tmp 125) (.tmp 127) 3) 4]) (
      .cond (.tmp 128) (
       .skip) (
       .exit 8))) (
      .seq (
      .block 9 (
       .seq (
       .ops [sop nb 131 (.move (.tmp 10)) 26,
         sop nb 132 (.move (.tmp 19)) 3,
         sop nb 133 (.indexAddr 26 (.tmp 131) (.tmp 132)) 0,
         sop nb 134 (.load 3 (.tmp 133)) 3,
         sop nb 135 (.move (.tmp 12)) 26,
         sop nb 136 (.move (.tmp 19)) 3,
         sop nb 137 (.indexAddr 26 (.tmp 135) (.tmp 136)) 0,
         sop nb 138 (.load 3 (.tmp 137)) 3,
         sop nb 139 (.binOp .add 3 (.tmp 134) (.tmp 138) 3) 3,
         sop nb 20 (.assign (.tmp 139)) 3]) (
       .seq (
       .seq (
       .ops [sop nb 140 (.move (.tmp 19)) 3,
         sop nb 141 (.move (.tmp 16)) 3,
         sop nb 142 (.binOp .eql 3 (.tmp 140) (.tmp 141) 3) 4]) (
       .cond (.tmp 142) (
        .ops [sop nb 143 (.move (.tmp 20)) 3,
          sop nb 144 (.binOp .sub 3 (.tmp 143) (.const (.int .i64 1)) 3) 3,
          sop nb 20 (.assign (.tmp 144)) 3]) (
        .skip))) (
       .ops [sop nb 145 (.move (.tmp 17)) 26,
         sop nb 146 (.move (.tmp 20)) 3,
         sop nb 147 (.buildSlice 26 1 #[(0, (.tmp 146))]) 26,
         sop nb 148 (.call { callee := .builtin .append, args := #[(.tmp 145), (.tmp 147)], argTypes := #[26, 26] }) 26,
         sop nb 149 (.move (.tmp 18)) 4,
         sop nb 150 (.move (.tmp 149)) 4,
         ⟨some 151, (.move (.tmp 20)), 3, some (150, false), some (nb + 151)⟩,
         ⟨some 152, (.binOp .gtr 3 (.tmp 151) (.const (.int .i64 5)) 3), 4, some (150, false), some (nb + 152)⟩,
         sop nb 153 (.pick (.tmp 150) (.const (.bool true)) (.tmp 152)) 4,
         sop nb 17 (.assign (.tmp 148)) 26,
         sop nb 18 (.assign (.tmp 153)) 4])))) (
      .ops [sop nb 129 (.move (.tmp 19)) 3,
        sop nb 130 (.binOp .add 3 (.tmp 129) (.const (.int .i64 1)) 3) 3,
        sop nb 19 (.assign (.tmp 130)) 3])))))) (
    .seq (
    .ops [sop nb 21 (.assign (.const (.bool true))) 4]) (
    .seq (
    .seq (
    .ops [sop nb 22 (.assign (.const (.int .i64 0))) 3]) (
    .block 10 (
     .loop (
      .seq (
      .seq (
      .ops [sop nb 154 (.move (.tmp 22)) 3,
        sop nb 155 (.move (.tmp 8)) 25,
        sop nb 156 (.call { callee := .builtin .len, args := #[(.tmp 155)], argTypes := #[25] }) 3,
        sop nb 157 (.binOp .lss 3 (.tmp 154) (.tmp 156) 3) 4,
        sop nb 158 (.move (.tmp 157)) 4,
        ⟨some 159, (.move (.tmp 18)), 4, some (158, true), some (nb + 159)⟩,
        ⟨some 160, (.unOp .not 4 (.tmp 159)), 4, some (158, true), some (nb + 160)⟩,
        sop nb 161 (.pick (.tmp 158) (.tmp 160) (.const (.bool false))) 4]) (
      .cond (.tmp 161) (
       .skip) (
       .exit 10))) (
      .seq (
      .block 11 (
       .seq (
       .opsD [sop nb 165 (.load 24 (.tmp 7)) 24,
         sop nb 166 (.call { callee := .value (.func 46), args := #[(.tmp 165)], argTypes := #[24] }) 24,
         sop nb 167 (.move (.tmp 17)) 26,
         sop nb 168 (.call { callee := .value (.func 17), args := #[(.tmp 167)], argTypes := #[26] }) 26,
         sop nb 169 (.move (.tmp 8)) 25,
         sop nb 170 (.move (.tmp 22)) 3,
         sop nb 171 (.indexAddr 25 (.tmp 169) (.tmp 170)) 0,
         sop nb 172 (.load 26 (.tmp 171)) 26,
         sop nb 173 (.call { callee := .value (.func 17), args := #[(.tmp 172)], argTypes := #[26] }) 26,
         sop nb 174 (.call { callee := .value (.func 29), args := #[(.tmp 166), (.tmp 168), (.tmp 173)], argTypes := #[24, 26, 26] }) 35,
         sop nb 164 (.move (.tmp 174)) 35,
         sop nb 175 (.extract (.tmp 164) 0) 26,
         sop nb 176 (.extract (.tmp 164) 1) 34,
         sop nb 23 (.assign (.tmp 175)) 26,
         sop nb 24 (.assign (.tmp 176)) 34] [(1, 6), (3, 6), (1, 7), (3, 7)]) (
       .ops [sop nb 177 (.move (.tmp 21)) 4,
         sop nb 178 (.move (.tmp 177)) 4,
         ⟨some 179, (.move (.tmp 24)), 34, some (178, true), some (nb + 179)⟩,
         ⟨some 180, (.binOp .eql 34 (.tmp 179) (.const (.int .i64 0)) 34), 4, some (178, true), some (nb + 180)⟩,
         sop nb 181 (.pick (.tmp 178) (.tmp 180) (.const (.bool false))) 4,
         sop nb 21 (.assign (.tmp 181)) 4]))) (
      .ops [sop nb 162 (.move (.tmp 22)) 3,
        sop nb 163 (.binOp .add 3 (.tmp 162) (.const (.int .i64 1)) 3) 3,
        sop nb 22 (.assign (.tmp 163)) 3])))))) (
    .seq (
    .ops [sop nb 182 (.move (.tmp 18)) 4,
      sop nb 183 (.unOp .not 4 (.tmp 182)) 4,
      sop nb 184 (.move (.tmp 183)) 4,
      ⟨some 185, (.move (.tmp 21)), 4, some (184, true), some (nb + 185)⟩,
      ⟨some 186, (.move (.tmp 16)), 3, some (184, true), some (nb + 186)⟩,
      ⟨some 187, (.binOp .lss 3 (.tmp 186) (.const (.int .i64 0)) 3), 4, some (184, true), some (nb + 187)⟩,
      ⟨some 188, (.binOp .neq 4 (.tmp 185) (.tmp 187) 4), 4, some (184, true), some (nb + 188)⟩,
      sop nb 189 (.pick (.tmp 184) (.tmp 188) (.const (.bool false))) 4]) (
    .cond (.tmp 189) (
     .seq (
     .ops [sop nb 6 (.assign (.const (.bool false))) 4]) (
     .ret)) (
     .skip))))))))) (
   .ops [sop nb 113 (.move (.tmp 16)) 3,
     sop nb 114 (.binOp .add 3 (.tmp 113) (.const (.int .i64 1)) 3) 3,
     sop nb 16 (.assign (.tmp 114)) 3])))))) (
 .seq (
 .seq (
 .ops [sop nb 190 (.move (.tmp 8)) 25,
 sop nb 191 (.call { callee := .builtin .len, args := #[(.tmp 190)], argTypes := #[25] }) 3,
 sop nb 192 (.binOp .eql 3 (.tmp 191) (.const (.int .i64 0)) 3) 4]) (
 .cond (.tmp 192) (
  .seq (
  .ops [sop nb 193 (.move (.tmp 14)) 3,
    sop nb 194 (.binOp .eql 3 (.tmp 193) (.const (.int .i64 0)) 3) 4,
    sop nb 195 (.move (.tmp 194)) 4,
    ⟨some 196, (.call { callee := .value (.func 14), args := #[], argTypes := #[] }), 4, some (195, true), some (nb + 196)⟩,
    sop nb 197 (.pick (.tmp 195) (.tmp 196) (.const (.bool false))) 4,
    sop nb 6 (.assign (.tmp 197)) 4]) (
  .ret)) (
  .skip))) (
 .seq (
 .opsD [sop nb 199 (.load 24 (.tmp 7)) 24,
 sop nb 200 (.call { callee := .value (.func 46), args := #[(.tmp 199)], argTypes := #[24] }) 24,
 sop nb 201 (.move (.tmp 10)) 26,
 sop nb 202 (.call { callee := .value (.func 17), args := #[(.tmp 201)], argTypes := #[26] }) 26,
 sop nb 203 (.move (.tmp 8)) 25,
 sop nb 204 (.slice 25 (.tmp 203) (some (.const (.int .i64 1))) none none) 25,
 sop nb 205 (.call { callee := .value (.func 51), args := #[(.tmp 204)], argTypes := #[25] }) 25,
 sop nb 206 (.call { callee := .value (.func 35), args := #[(.tmp 200), (.tmp 202), (.tmp 205)], argTypes := #[24, 26, 25] }) 35,
 sop nb 198 (.move (.tmp 206)) 35,
 sop nb 207 (.extract (.tmp 198) 0) 26,
 sop nb 208 (.extract (.tmp 198) 1) 34,
 sop nb 25 (.assign (.tmp 207)) 26,
 sop nb 26 (.assign (.tmp 208)) 34] [(1, 5), (3, 5)]) (
 .seq (
 .ops [sop nb 27 (.assign (.const (.int .i64 0))) 3]) (
 .seq (
 .seq (
 .ops [sop nb 28 (.assign (.const (.int .i64 0))) 3]) (
 .block 12 (
  .loop (
   .seq (
   .seq (
   .ops [sop nb 209 (.move (.tmp 28)) 3,
     sop nb 210 (.move (.tmp 25)) 26,
     sop nb 211 (.call { callee := .builtin .len, args := #[(.tmp 210)], argTypes := #[26] }) 3,
     sop nb 212 (.binOp .lss 3 (.tmp 209) (.tmp 211) 3) 4]) (
   .cond (.tmp 212) (
    .skip) (
    .exit 12))) (
   .seq (
   .block 13 (
    .ops [sop nb 215 (.move (.tmp 27)) 3,
      sop nb 216 (.move (.tmp 25)) 26,
      sop nb 217 (.move (.tmp 28)) 3,
      sop nb 218 (.indexAddr 26 (.tmp 216) (.tmp 217)) 0,
      sop nb 219 (.load 3 (.tmp 218)) 3,
      sop nb 220 (.binOp .add 3 (.tmp 215) (.tmp 219) 3) 3,
      sop nb 27 (.assign (.tmp 220)) 3])) (
   .ops [sop nb 213 (.move (.tmp 28)) 3,
     sop nb 214 (.binOp .add 3 (.tmp 213) (.const (.int .i64 1)) 3) 3,
     sop nb 28 (.assign (.tmp 214)) 3])))))) (
 .seq (
 .ops [sop nb 221 (.move (.tmp 26)) 34,
 sop nb 222 (.binOp .eql 34 (.tmp 221) (.const (.int .i64 0)) 34) 4,
 sop nb 223 (.move (.tmp 222)) 4,
   ⟨some 224, (.move (.tmp 25)), 26, some (223, true), some (nb + 224)⟩,
   ⟨some 225, (.call { callee := .builtin .len, args := #[(.tmp 224)], argTypes := #[26] }), 3, some (223, true), some (nb + 225)⟩,
   ⟨some 226, (.fieldAddr 24 (.tmp 7) 0), 0, some (223, true), some (nb + 226)⟩,
   ⟨some 227, (.load 3 (.tmp 226)), 3, some (223, true), some (nb + 227)⟩,
   ⟨some 228, (.binOp .eql 3 (.tmp 225) (.tmp 227) 3), 4, some (223, true), some (nb + 228)⟩,
 sop nb 229 (.pick (.tmp 223) (.tmp 228) (.const (.bool false))) 4,
 sop nb 230 (.move (.tmp 229)) 4,
   ⟨some 231, (.move (.tmp 27)), 3, some (230, true), some (nb + 231)⟩,
   ⟨some 232, (.move (.tmp 14)), 3, some (230, true), some (nb + 232)⟩,
   ⟨some 233, (.binOp .leq 3 (.tmp 231) (.tmp 232) 3), 4, some (230, true), some (nb + 233)⟩,
 sop nb 234 (.pick (.tmp 230) (.tmp 233) (.const (.bool false))) 4,
 sop nb 235 (.move (.tmp 234)) 4,
   ⟨some 236, (.call { callee := .value (.func 14), args := #[], argTypes := #[] }), 4, some (235, true), some (nb + 236)⟩,
 sop nb 237 (.pick (.tmp 235) (.tmp 236) (.const (.bool false))) 4,
 sop nb 6 (.assign (.tmp 237)) 4]) (
 .ret)))))))))))))))
@[go_sem] theorem rs10 : Go.Proofs.Try.f10.results.toList = [.tmp 6] := by kernel_rfl
theorem en10 : Enters Q 10 := enters_of Go.Proofs.Try.func10 rfl (by kernel_rfl)
theorem k10 (nb : Nat) : sk nb Go.Proofs.Try.f10.ntmps (Go.Proofs.Try.f10.body.getD .skip) = some (c10 nb) := by kernel_rfl
end S07

