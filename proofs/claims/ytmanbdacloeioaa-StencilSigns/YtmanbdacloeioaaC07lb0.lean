/- A part of the proof: C07lb0. -/
import Derived.Test.YtmanbdacloeioaaF07
set_option linter.unusedVariables false
set_option linter.unusedSimpArgs false
set_option maxRecDepth 20000
namespace S07
open Go Abs
/-- smalto/smaltolaw07.StencilSigns -/
noncomputable def c7 (nb : Nat) : SC :=
 .seq (
 .ops [sop nb 3 (.box 71 (.tmp 0)) 0,
 sop nb 5 (.box 73 (.tmp 2)) 0,
 sop nb 6 (.assign (.const (.bool false))) 4]) (
 .seq (
 .ops [sop nb 30 (.load 71 (.tmp 3)) 71,
 sop nb 31 (.call { callee := .value (.func 42), args := #[(.tmp 30)], argTypes := #[71] }) 24,
 sop nb 7 (.alloc 24) 0,
   ⟨none, (.store 24 (.tmp 7) (.tmp 31)), 0, none, none⟩]) (
 .seq (
 .ops [sop nb 32 (.load 24 (.tmp 7)) 24,
 sop nb 33 (.move (.tmp 1)) 72,
 sop nb 34 (.call { callee := .value (.func 43), args := #[(.tmp 32), (.tmp 33)], argTypes := #[24, 72] }) 26,
 sop nb 35 (.buildSlice 26 0 #[]) 26,
 sop nb 36 (.buildSlice 26 0 #[]) 26,
 sop nb 8 (.assign (.tmp 34)) 26,
 sop nb 9 (.assign (.tmp 35)) 26,
 sop nb 10 (.assign (.tmp 36)) 26,
 sop nb 11 (.assign (.const (.int .i64 0))) 3]) (
 .seq (
 .seq (
 .ops [sop nb 12 (.assign (.const (.int .i64 0))) 3]) (
 .block 0 (
  .loop (
   .seq (
   .seq (
   .ops [sop nb 37 (.move (.tmp 12)) 3,
     sop nb 38 (.move (.tmp 8)) 26,
     sop nb 39 (.call { callee := .builtin .len, args := #[(.tmp 38)], argTypes := #[26] }) 3,
     sop nb 40 (.binOp .lss 3 (.tmp 37) (.tmp 39) 3) 4]) (
   .cond (.tmp 40) (
    .skip) (
    .exit 0))) (
   .seq (
   .block 1 (
    .seq (
    .ops [sop nb 44 (.load 24 (.tmp 7)) 24,
      sop nb 45 (.move (.tmp 8)) 26,
      sop nb 46 (.move (.tmp 12)) 3,
      sop nb 47 (.indexAddr 26 (.tmp 45) (.tmp 46)) 0,
      sop nb 48 (.load 3 (.tmp 47)) 3,
      sop nb 49 (.move (.tmp 12)) 3,
      sop nb 50 (.indexAddr 73 (.tmp 5) (.tmp 49)) 0,
      sop nb 51 (.load 5 (.tmp 50)) 5,
      sop nb 52 (.call { callee := .value (.func 44), args := #[(.tmp 44), (.tmp 48), (.tmp 51)], argTypes := #[24, 3, 5] }) 77,
      sop nb 43 (.move (.tmp 52)) 77,
      sop nb 53 (.extract (.tmp 43) 0) 76,
      sop nb 54 (.extract (.tmp 43) 1) 3,
      sop nb 55 (.extract (.tmp 43) 2) 3,
      sop nb 56 (.extract (.tmp 43) 3) 3,
      sop nb 13 (.assign (.tmp 53)) 76,
      sop nb 14 (.assign (.tmp 54)) 3,
      sop nb 15 (.assign (.tmp 55)) 3,
      sop nb 16 (.assign (.tmp 56)) 3]) (
    .ops [sop nb 57 (.move (.tmp 9)) 26,
      sop nb 58 (.move (.tmp 15)) 3,
      sop nb 59 (.buildSlice 26 1 #[(0, (.tmp 58))]) 26,
      sop nb 60 (.call { callee := .builtin .append, args := #[(.tmp 57), (.tmp 59)], argTypes := #[26, 26] }) 26,
      sop nb 61 (.move (.tmp 10)) 26,
      sop nb 62 (.move (.tmp 13)) 76,
      sop nb 63 (.buildSlice 26 1 #[(0, (.tmp 62))]) 26,
      sop nb 64 (.call { callee := .builtin .append, args := #[(.tmp 61), (.tmp 63)], argTypes := #[26, 26] }) 26,
      sop nb 65 (.move (.tmp 11)) 3,
      sop nb 66 (.move (.tmp 16)) 3,
      sop nb 67 (.binOp .add 3 (.tmp 65) (.tmp 66) 3) 3,
      sop nb 9 (.assign (.tmp 60)) 26,
      sop nb 10 (.assign (.tmp 64)) 26,
      sop nb 11 (.assign (.tmp 67)) 3]))) (
   .ops [sop nb 41 (.move (.tmp 12)) 3,
     sop nb 42 (.binOp .add 3 (.tmp 41) (.const (.int .i64 1)) 3) 3,
     sop nb 12 (.assign (.tmp 42)) 3])))))) (
 .seq (
 .ops [sop nb 69 (.load 24 (.tmp 7)) 24,
 sop nb 70 (.call { callee := .value (.func 46), args := #[(.tmp 69)], argTypes := #[24] }) 24,
 sop nb 71 (.move (.tmp 8)) 26,
 sop nb 72 (.call { callee := .value (.func 17), args := #[(.tmp 71)], argTypes := #[26] }) 26,
 sop nb 73 (.move (.tmp 9)) 26,
 sop nb 74 (.call { callee := .value (.func 17), args := #[(.tmp 73)], argTypes := #[26] }) 26,
 sop nb 75 (.call { callee := .value (.func 45), args := #[(.tmp 70), (.tmp 72), (.tmp 74)], argTypes := #[24, 26, 26] }) 80,
 sop nb 68 (.move (.tmp 75)) 80,
 sop nb 76 (.extract (.tmp 68) 0) 79,
 sop nb 77 (.extract (.tmp 68) 1) 34,
 sop nb 17 (.assign (.tmp 76)) 79,
 sop nb 18 (.assign (.tmp 77)) 34]) (
 .seq (
 .ops [sop nb 79 (.load 24 (.tmp 7)) 24,
 sop nb 80 (.call { callee := .value (.func 46), args := #[(.tmp 79)], argTypes := #[24] }) 24,
 sop nb 81 (.move (.tmp 8)) 26,
 sop nb 82 (.call { callee := .value (.func 17), args := #[(.tmp 81)], argTypes := #[26] }) 26,
 sop nb 83 (.move (.tmp 9)) 26,
 sop nb 84 (.call { callee := .value (.func 17), args := #[(.tmp 83)], argTypes := #[26] }) 26,
 sop nb 85 (.call { callee := .value (.func 47), args := #[(.tmp 80), (.tmp 82), (.tmp 84)], argTypes := #[24, 26, 26] }) 83,
 sop nb 78 (.move (.tmp 85)) 83,
 sop nb 86 (.extract (.tmp 78) 0) 82,
 sop nb 87 (.extract (.tmp 78) 1) 3,
 sop nb 88 (.extract (.tmp 78) 2) 34,
 sop nb 19 (.assign (.tmp 86)) 82,
 sop nb 20 (.assign (.tmp 87)) 3,
 sop nb 21 (.assign (.tmp 88)) 34]) (
 .seq (
 .ops [sop nb 90 (.load 24 (.tmp 7)) 24,
 sop nb 91 (.call { callee := .value (.func 46), args := #[(.tmp 90)], argTypes := #[24] }) 24,
 sop nb 92 (.move (.tmp 8)) 26,
 sop nb 93 (.call { callee := .value (.func 17), args := #[(.tmp 92)], argTypes := #[26] }) 26,
 sop nb 94 (.buildSlice 25 1 #[(0, (.tmp 93))]) 25,
 sop nb 95 (.move (.tmp 9)) 26,
 sop nb 96 (.call { callee := .value (.func 17), args := #[(.tmp 95)], argTypes := #[26] }) 26,
 sop nb 97 (.move (.tmp 11)) 3,
 sop nb 98 (.call { callee := .value (.func 18), args := #[(.tmp 91), (.tmp 94), (.tmp 96), (.tmp 97)], argTypes := #[24, 25, 26, 3] }) 35,
 sop nb 89 (.move (.tmp 98)) 35,
 sop nb 99 (.extract (.tmp 89) 0) 26,
 sop nb 100 (.extract (.tmp 89) 1) 34,
 sop nb 22 (.assign (.tmp 99)) 26,
 sop nb 23 (.assign (.tmp 100)) 34]) (
 .seq (
 .seq (
 .ops [sop nb 101 (.move (.tmp 18)) 34,
 sop nb 102 (.binOp .neq 34 (.tmp 101) (.const (.int .i64 0)) 34) 4,
 sop nb 103 (.move (.tmp 102)) 4,
   ⟨some 104, (.move (.tmp 21)), 34, some (103, false), some (nb + 104)⟩,
   ⟨some 105, (.binOp .neq 34 (.tmp 104) (.const (.int .i64 0)) 34), 4, some (103, false), some (nb + 105)⟩,
 sop nb 106 (.pick (.tmp 103) (.const (.bool true)) (.tmp 105)) 4,
 sop nb 107 (.move (.tmp 106)) 4,
   ⟨some 108, (.move (.tmp 23)), 34, some (107, false), some (nb + 108)⟩,
   ⟨some 109, (.binOp .neq 34 (.tmp 108) (.const (.int .i64 0)) 34), 4, some (107, false), some (nb + 109)⟩,
 sop nb 110 (.pick (.tmp 107) (.const (.bool true)) (.tmp 109)) 4,
 sop nb 111 (.move (.tmp 110)) 4,
   ⟨some 112, (.move (.tmp 17)), 79, some (111, false), some (nb + 112)⟩,
   ⟨some 113, (.call { callee := .builtin .len, args := #[(.tmp 112)], argTypes := #[79] }), 3, some (111, false), some (nb + 113)⟩,
   ⟨some 114, (.move (.tmp 8)), 26, some (111, false), some (nb + 114)⟩,
   ⟨some 115, (.call { callee := .builtin .len, args := #[(.tmp 114)], argTypes := #[26] }), 3, some (111, false), some (nb + 115)⟩,
   ⟨some 116, (.binOp .neq 3 (.tmp 113) (.tmp 115) 3), 4, some (111, false), some (nb + 116)⟩,
 sop nb 117 (.pick (.tmp 111) (.const (.bool true)) (.tmp 116)) 4,
 sop nb 118 (.move (.tmp 117)) 4,
   ⟨some 119, (.move (.tmp 19)), 82, some (118, false), some (nb + 119)⟩,
   ⟨some 120, (.call { callee := .builtin .len, args := #[(.tmp 119)], argTypes := #[82] }), 3, some (118, false), some (nb + 120)⟩,
   ⟨some 121, (.move (.tmp 8)), 26, some (118, false), some (nb + 121)⟩,
   ⟨some 122, (.call { callee := .builtin .len, args := #[(.tmp 121)], argTypes := #[26] }), 3, some (118, false), some (nb + 122)⟩,
   ⟨some 123, (.binOp .neq 3 (.tmp 120) (.tmp 122) 3), 4, some (118, false), some (nb + 123)⟩,
 sop nb 124 (.pick (.tmp 118) (.const (.bool true)) (.tmp 123)) 4,
 sop nb 125 (.move (.tmp 124)) 4,
   ⟨some 126, (.move (.tmp 20)), 3, some (125, false), some (nb + 126)⟩,
   ⟨some 127, (.binOp .lss 3 (.tmp 126) (.const (.int .i64 0)) 3), 4, some (125, false), some (nb + 127)⟩,
 sop nb 128 (.pick (.tmp 125) (.const (.bool true)) (.tmp 127)) 4,
 sop nb 129 (.move (.tmp 128)) 4,
   ⟨some 130, (.move (.tmp 20)), 3, some (129, false), some (nb + 130)⟩,
   ⟨some 131, (.move (.tmp 11)), 3, some (129, false), some (nb + 131)⟩,
   ⟨some 132, (.binOp .gtr 3 (.tmp 130) (.tmp 131) 3), 4, some (129, false), some (nb + 132)⟩,
 sop nb 133 (.pick (.tmp 129) (.const (.bool true)) (.tmp 132)) 4,
 sop nb 134 (.move (.tmp 133)) 4,
   ⟨some 135, (.move (.tmp 22)), 26, some (134, false), some (nb + 135)⟩,
   ⟨some 136, (.call { callee := .builtin .len, args := #[(.tmp 135)], argTypes := #[26] }), 3, some (134, false), some (nb + 136)⟩,
   ⟨some 137, (.binOp .neq 3 (.tmp 136) (.const (.int .i64 1)) 3), 4, some (134, false), some (nb + 137)⟩,
 sop nb 138 (.pick (.tmp 134) (.const (.bool true)) (.tmp 137)) 4,
 sop nb 139 (.move (.tmp 138)) 4,
   ⟨some 140, (.move (.tmp 22)), 26, some (139, false), some (nb + 140)⟩,
   ⟨some 141, (.indexAddr 26 (.tmp 140) (.const (.int .i64 0))), 0, some (139, false), some (nb + 141)⟩,
   ⟨some 142, (.load 3 (.tmp 141)), 3, some (139, false), some (nb + 142)⟩,
   ⟨some 143, (.binOp .neq 3 (.tmp 142) (.const (.int .i64 0)) 3), 4, some (139, false), some (nb + 143)⟩,
 sop nb 144 (.pick (.tmp 139) (.const (.bool true)) (.tmp 143)) 4]) (
 .cond (.tmp 144) (
  .seq (
  .ops [sop nb 6 (.assign (.const (.bool false))) 4]) (
  .ret)) (
  .skip))) (
 .seq (
 .ops [sop nb 24 (.assign (.const (.int .i64 0))) 3]) (
 .seq (
 .seq (
 .ops [sop nb 25 (.assign (.const (.int .i64 0))) 3]) (
 .block 2 (
  .loop (
   .seq (
   .seq (
   .ops [sop nb 145 (.move (.tmp 25)) 3,
     sop nb 146 (.move (.tmp 8)) 26,
     sop nb 147 (.call { callee := .builtin .len, args := #[(.tmp 146)], argTypes := #[26] }) 3,
     sop nb 148 (.binOp .lss 3 (.tmp 145) (.tmp 147) 3) 4]) (
   .cond (.tmp 148) (
    .skip) (
    .exit 2))) (
   .seq (
   .block 3 (
    .seq (
    .ops [sop nb 151 (.move (.tmp 17)) 79,
      sop nb 152 (.move (.tmp 25)) 3,
      sop nb 153 (.indexAddr 79 (.tmp 151) (.tmp 152)) 0,
      sop nb 154 (.load 82 (.tmp 153)) 82,
      sop nb 155 (.call { callee := .value (.func 48), args := #[(.tmp 154)], argTypes := #[82] }) 26,
      sop nb 26 (.assign (.tmp 155)) 26]) (
    .seq (
    .seq (
    .ops [sop nb 156 (.move (.tmp 26)) 26,
      sop nb 157 (.move (.tmp 10)) 26,
      sop nb 158 (.move (.tmp 25)) 3,
      sop nb 159 (.indexAddr 26 (.tmp 157) (.tmp 158)) 0,
      sop nb 160 (.load 3 (.tmp 159)) 3,
      sop nb 161 (.call { callee := .value (.func 49), args := #[(.tmp 156), (.tmp 160)], argTypes := #[26, 3] }) 4,
      sop nb 162 (.unOp .not 4 (.tmp 161)) 4,
      sop nb 163 (.move (.tmp 162)) 4,
      ⟨some 164, (.move (.tmp 26)), 26, some (163, false), some (nb + 164)⟩,
      ⟨some 165, (.move (.tmp 19)), 82, some (163, false), some (nb + 165)⟩,
      ⟨some 166, (.move (.tmp 25)), 3, some (163, false), some (nb + 166)⟩,
      ⟨some 167, (.indexAddr 82 (.tmp 165) (.tmp 166)), 0, some (163, false), some (nb + 167)⟩,
      ⟨some 168, (.load 76 (.tmp 167)), 76, some (163, false), some (nb + 168)⟩,
      ⟨some 169, (.call { callee := .value (.func 49), args := #[(.tmp 164), (.tmp 168)], argTypes := #[26, 3] }), 4, some (163, false), some (nb + 169)⟩,
      ⟨some 170, (.unOp .not 4 (.tmp 169)), 4, some (163, false), some (nb + 170)⟩,
      sop nb 171 (.pick (.tmp 163) (.const (.bool true)) (.tmp 170)) 4]) (
    .cond (.tmp 171) (
     .seq (
     .ops [sop nb 6 (.assign (.const (.bool false))) 4]) (
     .ret)) (
     .skip))) (
    .seq (
    .seq (
    .ops [sop nb 27 (.assign (.const (.int .i64 0))) 3]) (
    .block 4 (
     .loop (
      .seq (
      .seq (
      .ops [sop nb 172 (.move (.tmp 27)) 3,
        sop nb 173 (.move (.tmp 26)) 26,
        sop nb 174 (.call { callee := .builtin .len, args := #[(.tmp 173)], argTypes := #[26] }) 3,
        sop nb 175 (.binOp .lss 3 (.tmp 172) (.tmp 174) 3) 4]) (
      .cond (.tmp 175) (
       .skip) (
       .exit 4))) (
      .seq (
      .block 5 (
       .seq (
       .seq (
       .ops [sop nb 178 (.move (.tmp 26)) 26,
         sop nb 179 (.move (.tmp 27)) 3,
         sop nb 180 (.indexAddr 26 (.tmp 178) (.tmp 179)) 0,
         sop nb 181 (.load 3 (.tmp 180)) 3,
         sop nb 182 (.binOp .lss 3 (.tmp 181) (.const (.int .i64 0)) 3) 4,
         sop nb 183 (.move (.tmp 182)) 4,
         ⟨some 184, (.move (.tmp 26)), 26, some (183, false), some (nb + 184)⟩,
         ⟨some 185, (.move (.tmp 27)), 3, some (183, false), some (nb + 185)⟩,
         ⟨some 186, (.indexAddr 26 (.tmp 184) (.tmp 185)), 0, some (183, false), some (nb + 186)⟩,
         ⟨some 187, (.load 3 (.tmp 186)), 3, some (183, false), some (nb + 187)⟩,
         ⟨some 188, (.binOp .gtr 3 (.tmp 187) (.const (.int .i64 3)) 3), 4, some (183, false), some (nb + 188)⟩,
         sop nb 189 (.pick (.tmp 183) (.const (.bool true)) (.tmp 188)) 4,
         sop nb 190 (.move (.tmp 189)) 4,
         ⟨some 191, (.move (.tmp 27)), 3, some (190, false), some (nb + 191)⟩,
         ⟨some 192, (.binOp .gtr 3 (.tmp 191) (.const (.int .i64 0)) 3), 4, some (190, false), some (nb + 192)⟩,
         ⟨some 193, (.move (.tmp 192)), 4, some (190, false), some (nb + 193)⟩,
         ⟨some 194, (.move (.tmp 26)), 26, some (193, true), some (nb + 194)⟩,
         ⟨some 195, (.move (.tmp 27)), 3, some (193, true), some (nb + 195)⟩,
         ⟨some 196, (.indexAddr 26 (.tmp 194) (.tmp 195)), 0, some (193, true), some (nb + 196)⟩,
         ⟨some 197, (.load 3 (.tmp 196)), 3, some (193, true), some (nb + 197)⟩,
         ⟨some 198, (.move (.tmp 26)), 26, some (193, true), some (nb + 198)⟩,
         ⟨some 199, (.move (.tmp 27)), 3, some (193, true), some (nb + 199)⟩,
         ⟨some 200, (.binOp .sub 3 (.tmp 199) (.const (.int .i64 1)) 3), 3, some (193, true), some (nb + 200)⟩,
         ⟨some 201, (.indexAddr 26 (.tmp 198) (.tmp 200)), 0, some (193, true), some (nb + 201)⟩,
         ⟨some 202, (.load 3 (.tmp 201)), 3, some (193, true), some (nb + 202)⟩,
         ⟨some 203, (.binOp .leq 3 (.tmp 197) (.tmp 202) 3), 4, some (193, true), some (nb + 203)⟩,
         ⟨some 204, (.pick (.tmp 193) (.tmp 203) (.const (.bool false))), 4, some (190, false), some (nb + 204)⟩,
         sop nb 205 (.pick (.tmp 190) (.const (.bool true)) (.tmp 204)) 4]) (
       .cond (.tmp 205) (
        .seq (
        .ops [sop nb 6 (.assign (.const (.bool false))) 4]) (
        .ret)) (
        .skip))) (
       .seq (
       .opsD [sop nb 206 (.move (.tmp 26)) 26,
         sop nb 207 (.move (.tmp 27)) 3,
         sop nb 208 (.indexAddr 26 (.tmp 206) (.tmp 207)) 0,
         sop nb 209 (.load 3 (.tmp 208)) 3,
         sop nb 210 (.binOp .eql 3 (.tmp 209) (.const (.int .i64 0)) 3) 4,
         sop nb 211 (.move (.tmp 210)) 4,
         ⟨some 212, (.move (.tmp 9)), 26, some (211, true), some (nb + 212)⟩,
         ⟨some 213, (.move (.tmp 25)), 3, some (211, true), some (nb + 213)⟩,
         ⟨some 214, (.indexAddr 26 (.tmp 212) (.tmp 213)), 0, some (211, true), some (nb + 214)⟩,
         ⟨some 215, (.load 3 (.tmp 214)), 3, some (211, true), some (nb + 215)⟩,
         ⟨some 216, (.move (.tmp 8)), 26, some (211, true), some (nb + 216)⟩,
         ⟨some 217, (.move (.tmp 25)), 3, some (211, true), some (nb + 217)⟩,
         ⟨some 218, (.indexAddr 26 (.tmp 216) (.tmp 217)), 0, some (211, true), some (nb + 218)⟩,
         ⟨some 219, (.load 3 (.tmp 218)), 3, some (211, true), some (nb + 219)⟩,
         ⟨some 220, (.binOp .neq 3 (.tmp 215) (.tmp 219) 3), 4, some (211, true), some (nb + 220)⟩,
         sop nb 221 (.pick (.tmp 211) (.tmp 220) (.const (.bool false))) 4,
         sop nb 222 (.move (.tmp 221)) 4,
         ⟨some 223, (.move (.tmp 26)), 26, some (222, false), some (nb + 223)⟩,
         ⟨some 224, (.move (.tmp 27)), 3, some (222, false), some (nb + 224)⟩,
         ⟨some 225, (.indexAddr 26 (.tmp 223) (.tmp 224)), 0, some (222, false), some (nb + 225)⟩,
         ⟨some 226, (.load 3 (.tmp 225)), 3, some (222, false), some (nb + 226)⟩,
         ⟨some 227, (.binOp .eql 3 (.tmp 226) (.const (.int .i64 1)) 3), 4, some (222, false), some (nb + 227)⟩,
         ⟨some 228, (.move (.tmp 227)), 4, some (222, false), some (nb + 228)⟩,
         ⟨some 229, (.move (.tmp 9)), 26, some (228, true), some (nb + 229)⟩,
         ⟨some 230, (.move (.tmp 25)), 3, some (228, true), some (nb + 230)⟩,
         ⟨some 231, (.indexAddr 26 (.tmp 229) (.tmp 230)), 0, some (228, true), some (nb + 231)⟩,
         ⟨some 232, (.load 3 (.tmp 231)), 3, some (228, true), some (nb + 232)⟩,
         ⟨some 233, (.load 24 (.tmp 7)), 24, some (228, true), some (nb + 233)⟩,
         ⟨some 234, (.move (.tmp 8)), 26, some (228, true), some (nb + 234)⟩,
         ⟨some 235, (.move (.tmp 25)), 3, some (228, true), some (nb + 235)⟩,
         ⟨some 236, (.indexAddr 26 (.tmp 234) (.tmp 235)), 0, some (228, true), some (nb + 236)⟩,
         ⟨some 237, (.load 3 (.tmp 236)), 3, some (228, true), some (nb + 237)⟩,
         ⟨some 238, (.call { callee := .value (.func 50), args := #[(.tmp 233), (.tmp 237)], argTypes := #[24, 3] }), 3, some (228, true), some (nb + 238)⟩,
         ⟨some 239, (.binOp .neq 3 (.tmp 232) (.tmp 238) 3), 4, some (228, true), some (nb + 239)⟩,
         ⟨some 240, (.pick (.tmp 228) (.tmp 239) (.const (.bool false))), 4, some (222, false), some (nb + 240)⟩,
         sop nb 241 (.pick (.tmp 222) (.const (.bool true)) (.tmp 240)) 4] [(25, 32), (26, 32)]) (
       .cond (.tmp 241) (
        .seq (
        .ops [sop nb 6 (.assign (.const (.bool false))) 4]) (
        .ret)) (
        .skip))))) (
      .ops [sop nb 176 (.move (.tmp 27)) 3,
        sop nb 177 (.binOp .add 3 (.tmp 176) (.const (.int .i64 1)) 3) 3,
        sop nb 27 (.assign (.tmp 177)) 3])))))) (
    .seq (
    .ops [sop nb 242 (.move (.tmp 24)) 3,
      sop nb 243 (.build 88 #[(0, (.const (.int .i64 0))), (1, (.const (.int .i64 1))), (2, (.const (.int .i64 1))), (3, (.const (.int .i64 2)))]) 88,
      sop nb 244 (.move (.tmp 19)) 82,
      sop nb 245 (.move (.tmp 25)) 3,
      sop nb 246 (.indexAddr 82 (.tmp 244) (.tmp 245)) 0,
      sop nb 247 (.load 76 (.tmp 246)) 76,
      sop nb 248 (.binOp .and 3 (.tmp 247) (.const (.int .i64 3)) 3) 3,
      sop nb 249 (.index 88 (.tmp 243) (.tmp 248)) 3,
      sop nb 250 (.binOp .add 3 (.tmp 242) (.tmp 249) 3) 3,
      sop nb 24 (.assign (.tmp 250)) 3]) (
    .seq (
    .ops [sop nb 251 (.move (.tmp 9)) 26,
      sop nb 252 (.move (.tmp 25)) 3,
      sop nb 253 (.indexAddr 26 (.tmp 251) (.tmp 252)) 0,
      sop nb 254 (.load 3 (.tmp 253)) 3,
      sop nb 255 (.move (.tmp 8)) 26,
      sop nb 256 (.move (.tmp 25)) 3,
      sop nb 257 (.indexAddr 26 (.tmp 255) (.tmp 256)) 0,
      sop nb 258 (.load 3 (.tmp 257)) 3,
      sop nb 259 (.binOp .eql 3 (.tmp 254) (.tmp 258) 3) 4,
      sop nb 260 (.move (.tmp 259)) 4,
      ⟨some 261, (.move (.tmp 19)), 82, some (260, true), some (nb + 261)⟩,
      ⟨some 262, (.move (.tmp 25)), 3, some (260, true), some (nb + 262)⟩,
      ⟨some 263, (.indexAddr 82 (.tmp 261) (.tmp 262)), 0, some (260, true), some (nb + 263)⟩,
      ⟨some 264, (.load 76 (.tmp 263)), 76, some (260, true), some (nb + 264)⟩,
      ⟨some 265, (.binOp .neq 76 (.tmp 264) (.const (.int .i64 0)) 76), 4, some (260, true), some (nb + 265)⟩,
      sop nb 266 (.pick (.tmp 260) (.tmp 265) (.const (.bool false))) 4]) (
    .cond (.tmp 266) (
     .seq (
     .ops [sop nb 6 (.assign (.const (.bool false))) 4]) (
     .ret)) (
     .skip)))))))) (
   .ops [sop nb 149 (.move (.tmp 25)) 3,
     sop nb 150 (.binOp .add 3 (.tmp 149) (.const (.int .i64 1)) 3) 3,
     sop nb 25 (.assign (.tmp 150)) 3])))))) (
 .seq (
 .seq (
 .ops [sop nb 267 (.move (.tmp 20)) 3,
 sop nb 268 (.binOp .gtr 3 (.tmp 267) (.const (.int .i64 0)) 3) 4]) (
 .cond (.tmp 268) (
  .seq (
  .ops [sop nb 270 (.load 24 (.tmp 7)) 24,
    sop nb 271 (.call { callee := .value (.func 46), args := #[(.tmp 270)], argTypes := #[24] }) 24,
    sop nb 272 (.move (.tmp 8)) 26,
    sop nb 273 (.call { callee := .value (.func 17), args := #[(.tmp 272)], argTypes := #[26] }) 26,
    sop nb 274 (.buildSlice 25 1 #[(0, (.tmp 273))]) 25,
    sop nb 275 (.move (.tmp 9)) 26,
    sop nb 276 (.call { callee := .value (.func 17), args := #[(.tmp 275)], argTypes := #[26] }) 26,
    sop nb 277 (.move (.tmp 20)) 3,
    sop nb 278 (.binOp .sub 3 (.tmp 277) (.const (.int .i64 1)) 3) 3,
    sop nb 279 (.call { callee := .value (.func 18), args := #[(.tmp 271), (.tmp 274), (.tmp 276), (.tmp 278)], argTypes := #[24, 25, 26, 3] }) 35,
    sop nb 269 (.move (.tmp 279)) 35,
    sop nb 280 (.extract (.tmp 269) 0) 26,
    sop nb 281 (.extract (.tmp 269) 1) 34,
    sop nb 28 (.assign (.tmp 280)) 26,
    sop nb 29 (.assign (.tmp 281)) 34]) (
  .seq (
  .ops [sop nb 282 (.move (.tmp 29)) 34,
    sop nb 283 (.binOp .neq 34 (.tmp 282) (.const (.int .i64 7)) 34) 4]) (
  .cond (.tmp 283) (
   .seq (
   .ops [sop nb 6 (.assign (.const (.bool false))) 4]) (
   .ret)) (
   .skip)))) (
  .skip))) (
 .seq (
 .ops [sop nb 284 (.move (.tmp 24)) 3,
 sop nb 285 (.move (.tmp 20)) 3,
 sop nb 286 (.binOp .eql 3 (.tmp 284) (.tmp 285) 3) 4,
 sop nb 287 (.move (.tmp 286)) 4,
   ⟨some 288, (.call { callee := .value (.func 14), args := #[], argTypes := #[] }), 4, some (287, true), some (nb + 288)⟩,
 sop nb 289 (.pick (.tmp 287) (.tmp 288) (.const (.bool false))) 4,
 sop nb 6 (.assign (.tmp 289)) 4]) (
 .ret))))))))))))
@[go_sem] theorem rs7 : Go.Proofs.Try.f7.results.toList = [.tmp 6] := by kernel_rfl
theorem en7 : Enters Q 7 := enters_of Go.Proofs.Try.func7 rfl (by kernel_rfl)
theorem k7 (nb : Nat) : sk nb Go.Proofs.Try.f7.ntmps (Go.Proofs.Try.f7.body.getD .skip) = some (c7 nb) := by kernel_rfl
end S07

