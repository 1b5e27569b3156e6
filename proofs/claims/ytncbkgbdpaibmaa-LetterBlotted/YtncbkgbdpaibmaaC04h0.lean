/- A part of the proof: C04h0, C04m0, C04s0, C04t0. -/
import Derived.Test.YtncbkgbdpaibmaaF04
set_option linter.unusedVariables false
set_option linter.unusedSimpArgs false
set_option maxRecDepth 20000
namespace S04
open Go Abs
noncomputable def c10 (nb : Nat) : SC :=
 .seq (
 .ops [sop nb 3 (.box 81 (qt 0)) 0,
 sop nb 5 (.box 83 (qt 2)) 0,
 sop nb 6 (.assign (.const (.bool false))) 4]) (
 .seq (
 .ops [qld nb 34 81 3,
 qcl nb 35 50 #[qt 34] #[81] 25,
 qmv nb 36 1 82,
 qcl nb 37 51 #[qt 36] #[82] 22,
 sop nb 7 (.alloc 25) 0,
 nop (.store 25 (qt 7) (qt 35)) 0,
 qsg nb 8 37 22]) (
 .seq (
 .ops [qld nb 39 25 7,
 qcl nb 40 52 #[qt 39] #[25] 25,
 qmv nb 41 8 22,
 qcl nb 42 53 #[qt 41] #[22] 22,
 qcl nb 43 20 #[qt 40, qt 42] #[25, 22] 31,
 qmv nb 38 43 31,
 qex nb 44 38 0 3,
 qex nb 45 38 1 29,
 qsg nb 9 44 3,
 qsg nb 10 45 29]) (
 .seq (
 .seq (
 .ops [qmv nb 46 10 29,
 qbo nb 47 .neq 29 46 (qi 0) 29 4,
 qmv nb 48 47 4,
 gop nb 49 (.move (qt 9)) 3 48 false,
 gop nb 50 (.load 25 (qt 7)) 25 48 false,
 gop nb 51 (.move (qt 8)) 22 48 false,
 gop nb 52 (.call { callee := .value (.func 54), args := #[qt 50, qt 51], argTypes := #[25, 22] }) 3 48 false,
 gop nb 53 (.binOp .neq 3 (qt 49) (qt 52) 3) 4 48 false,
 sop nb 54 (.pick (qt 48) (.const (.bool true)) (qt 53)) 4]) (
 .cond (qt 54) (
  .seq (
  .ops [sop nb 6 (.assign (.const (.bool false))) 4]) (
  .ret)) (
  .skip))) (
 .seq (
 .ops [sop nb 11 (.assign (qi 0)) 3]) (
 .seq (
 .seq (
 .ops [sop nb 55 (.indexAddr 83 (qt 5) (qi 0)) 0,
 qld nb 56 82 55,
 qln nb 57 #[qt 56] #[82] 3,
 qbo nb 58 .gtr 3 57 (qi 0) 3 4]) (
 .cond (qt 58) (
  .ops [sop nb 59 (.indexAddr 83 (qt 5) (qi 0)) 0,
 qld nb 60 82 59,
 sop nb 61 (.indexAddr 82 (qt 60) (qi 0)) 0,
 qld nb 62 5 61,
 sop nb 63 (.convert 5 3 (qt 62)) 3,
 qbo nb 64 .rem 3 63 (qi 40) 3 3,
 qsg nb 11 64 3]) (
  .skip))) (
 .seq (
 .ops [qmv nb 65 9 3,
 qmv nb 66 11 3,
 qbo nb 67 .add 3 65 (qt 66) 3 3,
 qsg nb 12 67 3]) (
 .seq (
 .ops [qld nb 69 25 7,
 qcl nb 70 52 #[qt 69] #[25] 25,
 qmv nb 71 8 22,
 qcl nb 72 53 #[qt 71] #[22] 22,
 qmv nb 73 12 3,
 qcl nb 74 30 #[qt 70, qt 72, qt 73] #[25, 22, 3] 33,
 qmv nb 68 74 33,
 qex nb 75 68 0 22,
 qex nb 76 68 1 3,
 qex nb 77 68 2 29,
 qsg nb 13 75 22,
 qsg nb 14 76 3,
 qsg nb 15 77 29]) (
 .seq (
 .ops [qld nb 79 25 7,
 qcl nb 80 52 #[qt 79] #[25] 25,
 qmv nb 81 8 22,
 qcl nb 82 53 #[qt 81] #[22] 22,
 qmv nb 83 12 3,
 qbo nb 84 .add 3 83 (qi 1) 3 3,
 qcl nb 85 30 #[qt 80, qt 82, qt 84] #[25, 22, 3] 33,
 qmv nb 78 85 33,
 qex nb 86 78 0 22,
 qex nb 87 78 1 3,
 qex nb 88 78 2 29,
 qsg nb 16 86 22,
 qsg nb 17 87 3,
 qsg nb 18 88 29]) (
 .seq (
 .seq (
 .ops [qmv nb 89 15 29,
 qbo nb 90 .neq 29 89 (qi 0) 29 4,
 qmv nb 91 90 4,
 gop nb 92 (.move (qt 18)) 29 91 false,
 gop nb 93 (.binOp .neq 29 (qt 92) (qi 0) 29) 4 91 false,
 sop nb 94 (.pick (qt 91) (.const (.bool true)) (qt 93)) 4,
 qmv nb 95 94 4,
 gop nb 96 (.move (qt 13)) 22 95 false,
 gop nb 97 (.call { callee := .builtin .len, args := #[qt 96], argTypes := #[22] }) 3 95 false,
 gop nb 98 (.move (qt 8)) 22 95 false,
 gop nb 99 (.call { callee := .builtin .len, args := #[qt 98], argTypes := #[22] }) 3 95 false,
 gop nb 100 (.binOp .sub 3 (qt 99) (qi 1) 3) 3 95 false,
 gop nb 101 (.binOp .neq 3 (qt 97) (qt 100) 3) 4 95 false,
 sop nb 102 (.pick (qt 95) (.const (.bool true)) (qt 101)) 4,
 qmv nb 103 102 4,
 gop nb 104 (.load 25 (qt 7)) 25 103 false,
 gop nb 105 (.move (qt 8)) 22 103 false,
 gop nb 106 (.move (qt 13)) 22 103 false,
 gop nb 107 (.call { callee := .value (.func 55), args := #[qt 104, qt 105, qt 106], argTypes := #[25, 22, 22] }) 3 103 false,
 gop nb 108 (.move (qt 14)) 3 103 false,
 gop nb 109 (.binOp .neq 3 (qt 107) (qt 108) 3) 4 103 false,
 sop nb 110 (.pick (qt 103) (.const (.bool true)) (qt 109)) 4]) (
 .cond (qt 110) (
  .seq (
  .ops [sop nb 6 (.assign (.const (.bool false))) 4]) (
  .ret)) (
  .skip))) (
 .seq (
 .seq (
 .ops [qmv nb 111 9 3,
 qbo nb 112 .gtr 3 111 (qi 1) 3 4]) (
 .cond (qt 112) (
  .seq (
  .ops [qld nb 114 25 7,
 qcl nb 115 52 #[qt 114] #[25] 25,
 qmv nb 116 8 22,
 qcl nb 117 53 #[qt 116] #[22] 22,
 qmv nb 118 9 3,
 qbo nb 119 .sub 3 118 (qi 1) 3 3,
 qcl nb 120 30 #[qt 115, qt 117, qt 119] #[25, 22, 3] 33,
 qmv nb 113 120 33,
 qex nb 121 113 0 22,
 qex nb 122 113 1 3,
 qex nb 123 113 2 29,
 qsg nb 19 121 22,
 qsg nb 20 122 3,
 qsg nb 21 123 29]) (
  .seq (
  .ops [qmv nb 124 21 29,
 qbo nb 125 .neq 29 124 (qi 8) 29 4,
 qmv nb 126 125 4,
 gop nb 127 (.move (qt 19)) 22 126 false,
 gop nb 128 (.call { callee := .builtin .len, args := #[qt 127], argTypes := #[22] }) 3 126 false,
 gop nb 129 (.binOp .neq 3 (qt 128) (qi 0) 3) 4 126 false,
 sop nb 130 (.pick (qt 126) (.const (.bool true)) (qt 129)) 4,
 qmv nb 131 130 4,
 gop nb 132 (.move (qt 20)) 3 131 false,
 gop nb 133 (.binOp .neq 3 (qt 132) (qi 0) 3) 4 131 false,
 sop nb 134 (.pick (qt 131) (.const (.bool true)) (qt 133)) 4]) (
  .cond (qt 134) (
   .seq (
   .ops [sop nb 6 (.assign (.const (.bool false))) 4]) (
   .ret)) (
   .skip)))) (
  .skip))) (
 .seq (
 .ops [qmv nb 135 12 3,
 qld nb 136 25 7,
 qmv nb 137 8 22,
 qcl nb 138 54 #[qt 136, qt 137] #[25, 22] 3,
 qbo nb 139 .sub 3 135 (qt 138) 3 3,
 qsg nb 22 139 3]) (
 .seq (
 .seq (
 .ops [sop nb 23 (.assign (qi 0)) 3]) (
 .block 0 (
  .loop (
   .seq (
   .seq (
   .ops [qmv nb 140 23 3,
 qmv nb 141 13 22,
 qln nb 142 #[qt 141] #[22] 3,
 qbo nb 143 .lss 3 140 (qt 142) 3 4]) (
   .cond (qt 143) (
    .skip) (
    .exit 0))) (
   .seq (
   .block 1 (
    .seq (
    .seq (
    .opsD [qmv nb 146 13 22,
 qmv nb 147 23 3,
 qix nb 148 22 146 147 0,
 qld nb 149 3 148,
 qld nb 150 25 7,
 qmv nb 151 8 22,
 qmv nb 152 23 3,
 qcl nb 153 56 #[qt 150, qt 151, qt 152] #[25, 22, 3] 3,
 qbo nb 154 .lss 3 149 (qt 153) 3 4] [(2, 7), (3, 7)]) (
    .cond (qt 154) (
     .seq (
     .ops [sop nb 6 (.assign (.const (.bool false))) 4]) (
     .ret)) (
     .skip))) (
    .opsD [qmv nb 155 22 3,
 qmv nb 156 13 22,
 qmv nb 157 23 3,
 qix nb 158 22 156 157 0,
 qld nb 159 3 158,
 qld nb 160 25 7,
 qmv nb 161 8 22,
 qmv nb 162 23 3,
 qcl nb 163 56 #[qt 160, qt 161, qt 162] #[25, 22, 3] 3,
 qbo nb 164 .sub 3 159 (qt 163) 3 3,
 qbo nb 165 .sub 3 155 (qt 164) 3 3,
 qsg nb 22 165 3] [(3, 8), (4, 8)]))) (
   .ops [qmv nb 144 23 3,
 qbo nb 145 .add 3 144 (qi 1) 3 3,
 qsg nb 23 145 3])))))) (
 .seq (
 .seq (
 .ops [qmv nb 166 13 22,
 qln nb 167 #[qt 166] #[22] 3,
 qbo nb 168 .eql 3 167 (qi 0) 3 4]) (
 .cond (qt 168) (
  .seq (
  .ops [qcl nb 169 17 #[] #[] 4,
 qsg nb 6 169 4]) (
  .ret)) (
  .skip))) (
 .seq (
 .seq (
 .ops [qmv nb 170 22 3,
 qbo nb 171 .neq 3 170 (qi 0) 3 4]) (
 .cond (qt 171) (
  .seq (
  .ops [sop nb 6 (.assign (.const (.bool false))) 4]) (
  .ret)) (
  .skip))) (
 .seq (
 .seq (
 .ops [sop nb 24 (.assign (qi 0)) 3]) (
 .block 2 (
  .loop (
   .seq (
   .seq (
   .ops [qmv nb 172 24 3,
 qbo nb 173 .lss 3 172 (qi 2) 3 4]) (
   .cond (qt 173) (
    .skip) (
    .exit 2))) (
   .seq (
   .block 3 (
    .seq (
    .ops [sop nb 176 (.buildSlice 22 0 #[]) 22,
 qsg nb 25 176 22]) (
    .seq (
    .seq (
    .ops [sop nb 26 (.assign (qi 0)) 3]) (
    .block 4 (
     .loop (
      .seq (
      .seq (
      .ops [qmv nb 177 26 3,
 qmv nb 178 13 22,
 qln nb 179 #[qt 178] #[22] 3,
 qbo nb 180 .lss 3 177 (qt 179) 3 4]) (
      .cond (qt 180) (
       .skip) (
       .exit 4))) (
      .seq (
      .block 5 (
       .ops [qmv nb 183 25 22,
 qld nb 184 25 7,
 qmv nb 185 8 22,
 qmv nb 186 26 3,
 qcl nb 187 56 #[qt 184, qt 185, qt 186] #[25, 22, 3] 3,
 sop nb 188 (.buildSlice 22 1 #[(0, qt 187)]) 22,
 sop nb 189 (.call { callee := .builtin .append, args := #[qt 183, qt 188], argTypes := #[22, 22] }) 22,
 qsg nb 25 189 22])) (
      .ops [qmv nb 181 26 3,
 qbo nb 182 .add 3 181 (qi 1) 3 3,
 qsg nb 26 182 3])))))) (
    .seq (
    .seq (
    .ops [sop nb 27 (.assign (qi 0)) 3]) (
    .block 6 (
     .loop (
      .seq (
      .seq (
      .ops [qmv nb 190 27 3,
 qmv nb 191 11 3,
 qbo nb 192 .lss 3 190 (qt 191) 3 4]) (
      .cond (qt 192) (
       .skip) (
       .exit 6))) (
      .seq (
      .block 7 (
       .seq (
       .ops [qmv nb 195 27 3,
 qsg nb 28 195 3]) (
       .seq (
       .seq (
       .ops [qmv nb 196 24 3,
 qbo nb 197 .eql 3 196 (qi 1) 3 4,
 qmv nb 198 197 4,
 gop nb 199 (.indexAddr 83 (qt 5) (qi 1)) 0 198 true,
 gop nb 200 (.load 82 (qt 199)) 82 198 true,
 gop nb 201 (.call { callee := .builtin .len, args := #[qt 200], argTypes := #[82] }) 3 198 true,
 gop nb 202 (.binOp .gtr 3 (qt 201) (qi 0) 3) 4 198 true,
 sop nb 203 (.pick (qt 198) (qt 202) (.const (.bool false))) 4]) (
       .cond (qt 203) (
        .ops [sop nb 204 (.indexAddr 83 (qt 5) (qi 1)) 0,
 qld nb 205 82 204,
 qmv nb 206 27 3,
 sop nb 207 (.indexAddr 83 (qt 5) (qi 1)) 0,
 qld nb 208 82 207,
 qln nb 209 #[qt 208] #[82] 3,
 qbo nb 210 .rem 3 206 (qt 209) 3 3,
 qix nb 211 82 205 210 0,
 qld nb 212 5 211,
 sop nb 213 (.convert 5 3 (qt 212)) 3,
 qsg nb 28 213 3]) (
        .skip))) (
       .ops [qmv nb 214 25 22,
 qmv nb 215 28 3,
 qmv nb 216 25 22,
 qln nb 217 #[qt 216] #[22] 3,
 qbo nb 218 .rem 3 215 (qt 217) 3 3,
 qix nb 219 22 214 218 0,
 qld nb 220 3 219,
 qbo nb 221 .add 3 220 (qi 1) 3 3,
 qix nb 222 22 214 218 0,
 nop (.store 3 (qt 222) (qt 221)) 0])))) (
      .ops [qmv nb 193 27 3,
 qbo nb 194 .add 3 193 (qi 1) 3 3,
 qsg nb 27 194 3])))))) (
    .seq (
    .ops [qld nb 223 25 7,
 qmv nb 224 8 22,
 qmv nb 225 25 22,
 qcl nb 226 55 #[qt 223, qt 224, qt 225] #[25, 22, 22] 3,
 qsg nb 29 226 3]) (
    .seq (
    .ops [qmv nb 227 29 3,
 qmv nb 228 14 3,
 qbo nb 229 .lss 3 227 (qt 228) 3 4,
 qmv nb 230 229 4,
 gop nb 231 (.move (qt 29)) 3 230 false,
 gop nb 232 (.move (qt 14)) 3 230 false,
 gop nb 233 (.binOp .eql 3 (qt 231) (qt 232) 3) 4 230 false,
 gop nb 234 (.move (qt 233)) 4 230 false,
 gop nb 235 (.move (qt 25)) 22 234 true,
 gop nb 236 (.move (qt 13)) 22 234 true,
 gop nb 237 (.call { callee := .value (.func 57), args := #[qt 235, qt 236], argTypes := #[22, 22] }) 4 234 true,
 gop nb 238 (.pick (qt 234) (qt 237) (.const (.bool false))) 4 230 false,
 sop nb 239 (.pick (qt 230) (.const (.bool true)) (qt 238)) 4]) (
    .cond (qt 239) (
     .seq (
     .ops [sop nb 6 (.assign (.const (.bool false))) 4]) (
     .ret)) (
     .skip)))))))) (
   .ops [qmv nb 174 24 3,
 qbo nb 175 .add 3 174 (qi 1) 3 3,
 qsg nb 24 175 3])))))) (
 .seq (
 .ops [qld nb 241 25 7,
 qcl nb 242 52 #[qt 241] #[25] 25,
 qmv nb 243 8 22,
 qcl nb 244 53 #[qt 243] #[22] 22,
 qmv nb 245 13 22,
 qcl nb 246 53 #[qt 245] #[22] 22,
 qcl nb 247 21 #[qt 242, qt 244, qt 246] #[25, 22, 22] 33,
 qmv nb 240 247 33,
 qex nb 248 240 0 22,
 qex nb 249 240 1 3,
 qex nb 250 240 2 29,
 qsg nb 30 248 22,
 qsg nb 31 249 3,
 qsg nb 32 250 29]) (
 .seq (
 .seq (
 .ops [qmv nb 251 32 29,
 qbo nb 252 .neq 29 251 (qi 0) 29 4,
 qmv nb 253 252 4,
 gop nb 254 (.move (qt 31)) 3 253 false,
 gop nb 255 (.move (qt 14)) 3 253 false,
 gop nb 256 (.binOp .neq 3 (qt 254) (qt 255) 3) 4 253 false,
 sop nb 257 (.pick (qt 253) (.const (.bool true)) (qt 256)) 4,
 qmv nb 258 257 4,
 gop nb 259 (.move (qt 30)) 22 258 false,
 gop nb 260 (.call { callee := .builtin .len, args := #[qt 259], argTypes := #[22] }) 3 258 false,
 gop nb 261 (.move (qt 13)) 22 258 false,
 gop nb 262 (.call { callee := .builtin .len, args := #[qt 261], argTypes := #[22] }) 3 258 false,
 gop nb 263 (.binOp .neq 3 (qt 260) (qt 262) 3) 4 258 false,
 sop nb 264 (.pick (qt 258) (.const (.bool true)) (qt 263)) 4]) (
 .cond (qt 264) (
  .seq (
  .ops [sop nb 6 (.assign (.const (.bool false))) 4]) (
  .ret)) (
  .skip))) (
 .seq (
 .seq (
 .ops [sop nb 33 (.assign (qi 0)) 3]) (
 .block 8 (
  .loop (
   .seq (
   .seq (
   .ops [qmv nb 265 33 3,
 qmv nb 266 30 22,
 qln nb 267 #[qt 266] #[22] 3,
 qbo nb 268 .lss 3 265 (qt 267) 3 4]) (
   .cond (qt 268) (
    .skip) (
    .exit 8))) (
   .seq (
   .block 9 (
    .seq (
    .opsD [qmv nb 271 30 22,
 qmv nb 272 33 3,
 qix nb 273 22 271 272 0,
 qld nb 274 3 273,
 qld nb 275 25 7,
 qmv nb 276 8 22,
 qmv nb 277 33 3,
 qmv nb 278 13 22,
 qmv nb 279 33 3,
 qix nb 280 22 278 279 0,
 qld nb 281 3 280,
 qcl nb 282 58 #[qt 275, qt 276, qt 277, qt 281] #[25, 22, 3, 3] 3,
 qbo nb 283 .neq 3 274 (qt 282) 3 4,
 qmv nb 284 283 4,
 gop nb 285 (.move (qt 30)) 22 284 false,
 gop nb 286 (.move (qt 33)) 3 284 false,
 gop nb 287 (.indexAddr 22 (qt 285) (qt 286)) 0 284 false,
 gop nb 288 (.load 3 (qt 287)) 3 284 false,
 gop nb 289 (.fieldAddr 25 (qt 7) 3) 0 284 false,
 gop nb 290 (.load 3 (qt 289)) 3 284 false,
 gop nb 291 (.binOp .lss 3 (qt 288) (qt 290) 3) 4 284 false,
 sop nb 292 (.pick (qt 284) (.const (.bool true)) (qt 291)) 4] [(2, 11), (3, 11)]) (
    .cond (qt 292) (
     .seq (
     .ops [sop nb 6 (.assign (.const (.bool false))) 4]) (
     .ret)) (
     .skip)))) (
   .ops [qmv nb 269 33 3,
 qbo nb 270 .add 3 269 (qi 1) 3 3,
 qsg nb 33 270 3])))))) (
 .seq (
 .ops [qcl nb 293 17 #[] #[] 4,
 qsg nb 6 293 4]) (
 .ret))))))))))))))))))))
end S04

namespace S04
open Go Abs
noncomputable def c15 (nb : Nat) : SC :=
 .seq (
 .ops [sop nb 3 (.box 81 (qt 0)) 0,
 sop nb 5 (.box 77 (qt 2)) 0,
 sop nb 6 (.assign (.const (.bool false))) 4]) (
 .seq (
 .ops [qld nb 29 81 3,
 qcl nb 30 50 #[qt 29] #[81] 25,
 qmv nb 31 1 82,
 qcl nb 32 51 #[qt 31] #[82] 22,
 sop nb 7 (.alloc 25) 0,
 nop (.store 25 (qt 7) (qt 30)) 0,
 qsg nb 8 32 22]) (
 .seq (
 .ops [sop nb 33 (.fieldAddr 25 (qt 7) 2) 0,
 qld nb 34 3 33,
 sop nb 35 (.binOp .mul 3 (qi 2) (qt 34) 3) 3,
 sop nb 36 (.buildSlice 22 0 #[]) 22,
 qsg nb 9 35 3,
 qsg nb 10 36 22]) (
 .seq (
 .seq (
 .ops [sop nb 11 (.assign (qi 0)) 3]) (
 .block 0 (
  .loop (
   .seq (
   .seq (
   .ops [qmv nb 37 11 3,
 qmv nb 38 8 22,
 qln nb 39 #[qt 38] #[22] 3,
 qbo nb 40 .lss 3 37 (qt 39) 3 4]) (
   .cond (qt 40) (
    .skip) (
    .exit 0))) (
   .seq (
   .block 1 (
    .seq (
    .ops [qmv nb 43 9 3,
 sop nb 44 (.fieldAddr 25 (qt 7) 0) 0,
 qld nb 45 22 44,
 qmv nb 46 8 22,
 qmv nb 47 11 3,
 qix nb 48 22 46 47 0,
 qld nb 49 3 48,
 qix nb 50 22 45 49 0,
 qld nb 51 3 50,
 qbo nb 52 .add 3 43 (qt 51) 3 3,
 qsg nb 9 52 3]) (
    .seq (
    .ops [qmv nb 53 11 3,
 qbo nb 54 .gtr 3 53 (qi 0) 3 4]) (
    .cond (qt 54) (
     .seq (
     .ops [qmv nb 55 10 22,
 sop nb 56 (.indexAddr 77 (qt 5) (qi 0)) 0,
 qld nb 57 5 56,
 sop nb 58 (.convert 5 3 (qt 57)) 3,
 qmv nb 59 11 3,
 qbo nb 60 .quo 3 58 (qt 59) 3 3,
 qbo nb 61 .rem 3 60 (qi 20) 3 3,
 sop nb 62 (.buildSlice 22 1 #[(0, qt 61)]) 22,
 sop nb 63 (.call { callee := .builtin .append, args := #[qt 55, qt 62], argTypes := #[22, 22] }) 22,
 qsg nb 10 63 22]) (
     .ops [qmv nb 64 9 3,
 qmv nb 65 10 22,
 qmv nb 66 11 3,
 qbo nb 67 .sub 3 66 (qi 1) 3 3,
 qix nb 68 22 65 67 0,
 qld nb 69 3 68,
 qbo nb 70 .add 3 64 (qt 69) 3 3,
 qsg nb 9 70 3])) (
     .skip))))) (
   .ops [qmv nb 41 11 3,
 qbo nb 42 .add 3 41 (qi 1) 3 3,
 qsg nb 11 42 3])))))) (
 .seq (
 .seq (
 .ops [qmv nb 71 9 3,
 qbo nb 72 .gtr 3 71 (qi 380) 3 4]) (
 .cond (qt 72) (
  .seq (
  .ops [qcl nb 73 17 #[] #[] 4,
 qsg nb 6 73 4]) (
  .ret)) (
  .skip))) (
 .seq (
 .ops [qmv nb 74 9 3,
 sop nb 75 (.indexAddr 77 (qt 5) (qi 1)) 0,
 qld nb 76 5 75,
 sop nb 77 (.convert 5 3 (qt 76)) 3,
 qbo nb 78 .rem 3 77 (qi 10) 3 3,
 qbo nb 79 .sub 3 74 (qt 78) 3 3,
 sop nb 80 (.call { callee := .builtin .max, args := #[qi 1, qt 79], argTypes := #[3, 3] }) 3,
 qmv nb 81 9 3,
 sop nb 82 (.indexAddr 77 (qt 5) (qi 2)) 0,
 qld nb 83 5 82,
 sop nb 84 (.convert 5 3 (qt 83)) 3,
 qbo nb 85 .rem 3 84 (qi 10) 3 3,
 qbo nb 86 .add 3 81 (qt 85) 3 3,
 qcl nb 87 67 #[qt 80, qt 86] #[3, 3] 71,
 sop nb 12 (.alloc 71) 0,
 nop (.store 71 (qt 12) (qt 87)) 0]) (
 .seq (
 .ops [qmv nb 88 8 22,
 qcl nb 89 53 #[qt 88] #[22] 22,
 qmv nb 90 8 22,
 qcl nb 91 53 #[qt 90] #[22] 22,
 qsg nb 13 89 22,
 qsg nb 14 91 22]) (
 .seq (
 .opsD [sop nb 92 (.indexAddr 77 (qt 5) (qi 3)) 0,
 qld nb 93 5 92,
 sop nb 94 (.convert 5 3 (qt 93)) 3,
 qmv nb 95 8 22,
 qln nb 96 #[qt 95] #[22] 3,
 qbo nb 97 .rem 3 94 (qt 96) 3 3,
 sop nb 98 (.indexAddr 77 (qt 5) (qi 4)) 0,
 qld nb 99 5 98,
 sop nb 100 (.convert 5 3 (qt 99)) 3,
 qmv nb 101 8 22,
 qln nb 102 #[qt 101] #[22] 3,
 qbo nb 103 .rem 3 100 (qt 102) 3 3,
 qsg nb 15 97 3,
 qsg nb 16 103 3] [(6, 12), (7, 12), (10, 12)]) (
 .seq (
 .ops [qmv nb 104 13 22,
 qmv nb 105 15 3,
 qmv nb 106 14 22,
 qmv nb 107 15 3,
 qmv nb 108 14 22,
 qmv nb 109 16 3,
 qix nb 110 22 104 105 0,
 nop (.store 3 (qt 110) (qi (-1))) 0,
 qix nb 111 22 106 107 0,
 nop (.store 3 (qt 111) (qi (-1))) 0,
 qix nb 112 22 108 109 0,
 nop (.store 3 (qt 112) (qi (-1))) 0]) (
 .seq (
 .opsD [qld nb 114 25 7,
 qcl nb 115 52 #[qt 114] #[25] 25,
 qmv nb 116 13 22,
 qcl nb 117 53 #[qt 116] #[22] 22,
 qmv nb 118 10 22,
 qcl nb 119 53 #[qt 118] #[22] 22,
 qld nb 120 71 12,
 qcl nb 121 47 #[qt 115, qt 117, qt 119, qt 120] #[25, 22, 22, 71] 72,
 qmv nb 113 121 72,
 qex nb 122 113 0 56,
 qex nb 123 113 1 29,
 qsg nb 17 122 56,
 qsg nb 18 123 29] [(1, 6), (3, 6), (5, 6)]) (
 .seq (
 .opsD [qld nb 125 25 7,
 qcl nb 126 52 #[qt 125] #[25] 25,
 qmv nb 127 14 22,
 qcl nb 128 53 #[qt 127] #[22] 22,
 qmv nb 129 10 22,
 qcl nb 130 53 #[qt 129] #[22] 22,
 qld nb 131 71 12,
 qcl nb 132 47 #[qt 126, qt 128, qt 130, qt 131] #[25, 22, 22, 71] 72,
 qmv nb 124 132 72,
 qex nb 133 124 0 56,
 qex nb 134 124 1 29,
 qsg nb 19 133 56,
 qsg nb 20 134 29] [(1, 6), (3, 6), (5, 6)]) (
 .seq (
 .ops [qld nb 136 25 7,
 qcl nb 137 52 #[qt 136] #[25] 25,
 qmv nb 138 14 22,
 qcl nb 139 53 #[qt 138] #[22] 22,
 qmv nb 140 10 22,
 qcl nb 141 53 #[qt 140] #[22] 22,
 qmv nb 142 9 3,
 qmv nb 143 9 3,
 qcl nb 144 67 #[qt 142, qt 143] #[3, 3] 71,
 qcl nb 145 47 #[qt 137, qt 139, qt 141, qt 144] #[25, 22, 22, 71] 72,
 qmv nb 135 145 72,
 qex nb 146 135 0 56,
 qex nb 147 135 1 29,
 qsg nb 21 146 56,
 qsg nb 22 147 29]) (
 .seq (
 .ops [sop nb 23 (.assign (qi 2)) 3]) (
 .seq (
 .seq (
 .ops [qmv nb 148 15 3,
 qmv nb 149 16 3,
 qbo nb 150 .eql 3 148 (qt 149) 3 4]) (
 .cond (qt 150) (
  .ops [sop nb 23 (.assign (qi 1)) 3]) (
  .skip))) (
 .seq (
 .seq (
 .ops [qmv nb 151 18 29,
 qbo nb 152 .neq 29 151 (qi 0) 29 4,
 qmv nb 153 152 4,
 gop nb 154 (.move (qt 20)) 29 153 false,
 gop nb 155 (.binOp .neq 29 (qt 154) (qi 0) 29) 4 153 false,
 sop nb 156 (.pick (qt 153) (.const (.bool true)) (qt 155)) 4,
 qmv nb 157 156 4,
 gop nb 158 (.move (qt 22)) 29 157 false,
 gop nb 159 (.binOp .neq 29 (qt 158) (qi 0) 29) 4 157 false,
 sop nb 160 (.pick (qt 157) (.const (.bool true)) (qt 159)) 4,
 qmv nb 161 160 4,
 gop nb 162 (.move (qt 17)) 56 161 false,
 gop nb 163 (.call { callee := .builtin .len, args := #[qt 162], argTypes := #[56] }) 3 161 false,
 gop nb 164 (.binOp .neq 3 (qt 163) (qi 1) 3) 4 161 false,
 sop nb 165 (.pick (qt 161) (.const (.bool true)) (qt 164)) 4,
 qmv nb 166 165 4,
 gop nb 167 (.move (qt 19)) 56 166 false,
 gop nb 168 (.call { callee := .builtin .len, args := #[qt 167], argTypes := #[56] }) 3 166 false,
 gop nb 169 (.move (qt 23)) 3 166 false,
 gop nb 170 (.binOp .neq 3 (qt 168) (qt 169) 3) 4 166 false,
 sop nb 171 (.pick (qt 166) (.const (.bool true)) (qt 170)) 4,
 qmv nb 172 171 4,
 gop nb 173 (.move (qt 21)) 56 172 false,
 gop nb 174 (.call { callee := .builtin .len, args := #[qt 173], argTypes := #[56] }) 3 172 false,
 gop nb 175 (.move (qt 23)) 3 172 false,
 gop nb 176 (.binOp .neq 3 (qt 174) (qt 175) 3) 4 172 false,
 sop nb 177 (.pick (qt 172) (.const (.bool true)) (qt 176)) 4]) (
 .cond (qt 177) (
  .seq (
  .ops [sop nb 6 (.assign (.const (.bool false))) 4]) (
  .ret)) (
  .skip))) (
 .seq (
 .seq (
 .ops [sop nb 24 (.assign (qi 0)) 3]) (
 .block 2 (
  .loop (
   .seq (
   .seq (
   .ops [qmv nb 178 24 3,
 qmv nb 179 23 3,
 qbo nb 180 .lss 3 178 (qt 179) 3 4]) (
   .cond (qt 180) (
    .skip) (
    .exit 2))) (
   .seq (
   .block 3 (
    .seq (
    .ops [qmv nb 183 15 3,
 qmv nb 184 16 3,
 sop nb 185 (.call { callee := .builtin .min, args := #[qt 183, qt 184], argTypes := #[3, 3] }) 3,
 qsg nb 25 185 3]) (
    .seq (
    .seq (
    .ops [qmv nb 186 24 3,
 qbo nb 187 .eql 3 186 (qi 1) 3 4]) (
    .cond (qt 187) (
     .ops [qmv nb 188 15 3,
 qmv nb 189 16 3,
 sop nb 190 (.call { callee := .builtin .max, args := #[qt 188, qt 189], argTypes := #[3, 3] }) 3,
 qsg nb 25 190 3]) (
     .skip))) (
    .seq (
    .seq (
    .ops [qmv nb 191 19 56,
 qmv nb 192 24 3,
 qix nb 193 56 191 192 0,
 qld nb 194 22 193,
 qmv nb 195 8 22,
 qmv nb 196 25 3,
 qix nb 197 22 195 196 0,
 qld nb 198 3 197,
 qcl nb 199 61 #[qt 194, qt 198] #[22, 3] 4,
 sop nb 200 (.unOp .not 4 (qt 199)) 4,
 qmv nb 201 200 4,
 gop nb 202 (.move (qt 21)) 56 201 false,
 gop nb 203 (.move (qt 24)) 3 201 false,
 gop nb 204 (.indexAddr 56 (qt 202) (qt 203)) 0 201 false,
 gop nb 205 (.load 22 (qt 204)) 22 201 false,
 gop nb 206 (.move (qt 8)) 22 201 false,
 gop nb 207 (.move (qt 25)) 3 201 false,
 gop nb 208 (.indexAddr 22 (qt 206) (qt 207)) 0 201 false,
 gop nb 209 (.load 3 (qt 208)) 3 201 false,
 gop nb 210 (.call { callee := .value (.func 61), args := #[qt 205, qt 209], argTypes := #[22, 3] }) 4 201 false,
 gop nb 211 (.unOp .not 4 (qt 210)) 4 201 false,
 sop nb 212 (.pick (qt 201) (.const (.bool true)) (qt 211)) 4,
 qmv nb 213 212 4,
 gop nb 214 (.move (qt 25)) 3 213 false,
 gop nb 215 (.move (qt 15)) 3 213 false,
 gop nb 216 (.binOp .eql 3 (qt 214) (qt 215) 3) 4 213 false,
 gop nb 217 (.move (qt 216)) 4 213 false,
 gop nb 218 (.move (qt 17)) 56 217 true,
 gop nb 219 (.indexAddr 56 (qt 218) (qi 0)) 0 217 true,
 gop nb 220 (.load 22 (qt 219)) 22 217 true,
 gop nb 221 (.move (qt 8)) 22 217 true,
 gop nb 222 (.move (qt 25)) 3 217 true,
 gop nb 223 (.indexAddr 22 (qt 221) (qt 222)) 0 217 true,
 gop nb 224 (.load 3 (qt 223)) 3 217 true,
 gop nb 225 (.call { callee := .value (.func 61), args := #[qt 220, qt 224], argTypes := #[22, 3] }) 4 217 true,
 gop nb 226 (.unOp .not 4 (qt 225)) 4 217 true,
 gop nb 227 (.pick (qt 217) (qt 226) (.const (.bool false))) 4 213 false,
 sop nb 228 (.pick (qt 213) (.const (.bool true)) (qt 227)) 4]) (
    .cond (qt 228) (
     .seq (
     .ops [sop nb 6 (.assign (.const (.bool false))) 4]) (
     .ret)) (
     .skip))) (
    .seq (
    .seq (
    .ops [sop nb 26 (.assign (qi 0)) 3]) (
    .block 4 (
     .loop (
      .seq (
      .seq (
      .ops [qmv nb 229 26 3,
 qmv nb 230 19 56,
 qmv nb 231 24 3,
 qix nb 232 56 230 231 0,
 qld nb 233 22 232,
 qln nb 234 #[qt 233] #[22] 3,
 qbo nb 235 .lss 3 229 (qt 234) 3 4]) (
      .cond (qt 235) (
       .skip) (
       .exit 4))) (
      .seq (
      .block 5 (
       .seq (
       .ops [qmv nb 238 19 56,
 qmv nb 239 24 3,
 qix nb 240 56 238 239 0,
 qld nb 241 22 240,
 qmv nb 242 26 3,
 qix nb 243 22 241 242 0,
 qld nb 244 3 243,
 qbo nb 245 .lss 3 244 (qi 0) 3 4,
 qmv nb 246 245 4,
 gop nb 247 (.move (qt 19)) 56 246 false,
 gop nb 248 (.move (qt 24)) 3 246 false,
 gop nb 249 (.indexAddr 56 (qt 247) (qt 248)) 0 246 false,
 gop nb 250 (.load 22 (qt 249)) 22 246 false,
 gop nb 251 (.move (qt 26)) 3 246 false,
 gop nb 252 (.indexAddr 22 (qt 250) (qt 251)) 0 246 false,
 gop nb 253 (.load 3 (qt 252)) 3 246 false,
 gop nb 254 (.binOp .gtr 3 (qt 253) (qi 5) 3) 4 246 false,
 sop nb 255 (.pick (qt 246) (.const (.bool true)) (qt 254)) 4,
 qmv nb 256 255 4,
 gop nb 257 (.move (qt 26)) 3 256 false,
 gop nb 258 (.binOp .gtr 3 (qt 257) (qi 0) 3) 4 256 false,
 gop nb 259 (.move (qt 258)) 4 256 false,
 gop nb 260 (.move (qt 19)) 56 259 true,
 gop nb 261 (.move (qt 24)) 3 259 true,
 gop nb 262 (.indexAddr 56 (qt 260) (qt 261)) 0 259 true,
 gop nb 263 (.load 22 (qt 262)) 22 259 true,
 gop nb 264 (.move (qt 26)) 3 259 true,
 gop nb 265 (.indexAddr 22 (qt 263) (qt 264)) 0 259 true,
 gop nb 266 (.load 3 (qt 265)) 3 259 true,
 gop nb 267 (.move (qt 19)) 56 259 true,
 gop nb 268 (.move (qt 24)) 3 259 true,
 gop nb 269 (.indexAddr 56 (qt 267) (qt 268)) 0 259 true,
 gop nb 270 (.load 22 (qt 269)) 22 259 true,
 gop nb 271 (.move (qt 26)) 3 259 true,
 gop nb 272 (.binOp .sub 3 (qt 271) (qi 1) 3) 3 259 true,
 gop nb 273 (.indexAddr 22 (qt 270) (qt 272)) 0 259 true,
 gop nb 274 (.load 3 (qt 273)) 3 259 true,
 gop nb 275 (.binOp .leq 3 (qt 266) (qt 274) 3) 4 259 true,
 gop nb 276 (.pick (qt 259) (qt 275) (.const (.bool false))) 4 256 false,
 sop nb 277 (.pick (qt 256) (.const (.bool true)) (qt 276)) 4]) (
       .cond (qt 277) (
        .seq (
        .ops [sop nb 6 (.assign (.const (.bool false))) 4]) (
        .ret)) (
        .skip)))) (
      .ops [qmv nb 236 26 3,
 qbo nb 237 .add 3 236 (qi 1) 3 3,
 qsg nb 26 237 3])))))) (
    .seq (
    .seq (
    .ops [sop nb 27 (.assign (qi 0)) 3]) (
    .block 6 (
     .loop (
      .seq (
      .seq (
      .ops [qmv nb 278 27 3,
 qmv nb 279 21 56,
 qmv nb 280 24 3,
 qix nb 281 56 279 280 0,
 qld nb 282 22 281,
 qln nb 283 #[qt 282] #[22] 3,
 qbo nb 284 .lss 3 278 (qt 283) 3 4]) (
      .cond (qt 284) (
       .skip) (
       .exit 6))) (
      .seq (
      .block 7 (
       .seq (
       .ops [qmv nb 287 19 56,
 qmv nb 288 24 3,
 qix nb 289 56 287 288 0,
 qld nb 290 22 289,
 qmv nb 291 21 56,
 qmv nb 292 24 3,
 qix nb 293 56 291 292 0,
 qld nb 294 22 293,
 qmv nb 295 27 3,
 qix nb 296 22 294 295 0,
 qld nb 297 3 296,
 qcl nb 298 61 #[qt 290, qt 297] #[22, 3] 4,
 sop nb 299 (.unOp .not 4 (qt 298)) 4]) (
       .cond (qt 299) (
        .seq (
        .ops [sop nb 6 (.assign (.const (.bool false))) 4]) (
        .ret)) (
        .skip)))) (
      .ops [qmv nb 285 27 3,
 qbo nb 286 .add 3 285 (qi 1) 3 3,
 qsg nb 27 286 3])))))) (
    .seq (
    .ops [sop nb 28 (.assign (qi 0)) 3]) (
    .block 8 (
     .loop (
      .seq (
      .seq (
      .ops [qmv nb 300 28 3,
 qmv nb 301 17 56,
 sop nb 302 (.indexAddr 56 (qt 301) (qi 0)) 0,
 qld nb 303 22 302,
 qln nb 304 #[qt 303] #[22] 3,
 qbo nb 305 .lss 3 300 (qt 304) 3 4,
 qmv nb 306 305 4,
 gop nb 307 (.move (qt 25)) 3 306 true,
 gop nb 308 (.move (qt 15)) 3 306 true,
 gop nb 309 (.binOp .eql 3 (qt 307) (qt 308) 3) 4 306 true,
 sop nb 310 (.pick (qt 306) (qt 309) (.const (.bool false))) 4]) (
      .cond (qt 310) (
       .skip) (
       .exit 8))) (
      .seq (
      .block 9 (
       .seq (
       .ops [qmv nb 313 19 56,
 qmv nb 314 24 3,
 qix nb 315 56 313 314 0,
 qld nb 316 22 315,
 qmv nb 317 17 56,
 sop nb 318 (.indexAddr 56 (qt 317) (qi 0)) 0,
 qld nb 319 22 318,
 qmv nb 320 28 3,
 qix nb 321 22 319 320 0,
 qld nb 322 3 321,
 qcl nb 323 61 #[qt 316, qt 322] #[22, 3] 4,
 sop nb 324 (.unOp .not 4 (qt 323)) 4]) (
       .cond (qt 324) (
        .seq (
        .ops [sop nb 6 (.assign (.const (.bool false))) 4]) (
        .ret)) (
        .skip)))) (
      .ops [qmv nb 311 28 3,
 qbo nb 312 .add 3 311 (qi 1) 3 3,
 qsg nb 28 312 3])))))))))))) (
   .ops [qmv nb 181 24 3,
 qbo nb 182 .add 3 181 (qi 1) 3 3,
 qsg nb 24 182 3])))))) (
 .seq (
 .ops [qcl nb 325 17 #[] #[] 4,
 qsg nb 6 325 4]) (
 .ret)))))))))))))))))
@[go_sem] theorem rs15 : Go.Proofs.Try.f15.results.toList = [.tmp 6] := by kernel_rfl
theorem k15 (nb : Nat) : sk nb Go.Proofs.Try.f15.ntmps (Go.Proofs.Try.f15.body.getD .skip) = some (c15 nb) := by kernel_rfl
theorem w15 {a : List Arg} {r : RV} (h : W Q (c15 0) [] ⟨ρ0 (a.map fun a => a.m.lv), h0⟩ (retG Q Go.Proofs.Try.f15.results.toList (retF r))) (l : Nat.ble a.length Go.Proofs.Try.f15.ntmps = true := by kernel_rfl) : Fn Q 15 a r := fn_intro Go.Proofs.Try.func15 rfl (by kernel_rfl) mix (k15 0) (Nat.le_of_ble_eq_true l) h
end S04

namespace S04
open Go Abs
noncomputable def c32 (nb : Nat) : SC :=
 .seq (
 .ops [sop nb 3 (.box 25 (qt 0)) 0,
 sop nb 6 (.assign (.const (.slice none 0 0))) 22,
 sop nb 7 (.assign (qi 0)) 3]) (
 .seq (
 .opsD [qmv nb 14 2 3,
 sop nb 15 (.fieldAddr 25 (qt 3) 2) 0,
 qld nb 16 3 15,
 sop nb 17 (.binOp .mul 3 (qi 2) (qt 16) 3) 3,
 qbo nb 18 .sub 3 14 (qt 17) 3 3,
 qld nb 19 25 3,
 qmv nb 20 1 22,
 qcl nb 21 78 #[qt 19, qt 20] #[25, 22] 3,
 qbo nb 22 .sub 3 18 (qt 21) 3 3,
 qsg nb 8 22 3] [(2, 7)]) (
 .seq (
 .ops [sop nb 23 (.buildSlice 22 0 #[]) 22,
 qsg nb 9 23 22]) (
 .seq (
 .seq (
 .ops [sop nb 10 (.assign (qi 0)) 3]) (
 .block 0 (
  .loop (
   .seq (
   .seq (
   .ops [qmv nb 24 9 22,
 qln nb 25 #[qt 24] #[22] 3,
 qbo nb 26 .eql 3 25 (qi 0) 3 4]) (
   .cond (qt 26) (
    .skip) (
    .exit 0))) (
   .seq (
   .block 1 (
    .seq (
    .ops [sop nb 11 (.assign (qi 0)) 3]) (
    .block 2 (
     .loop (
      .seq (
      .seq (
      .ops [qmv nb 29 11 3,
 qmv nb 30 8 3,
 qbo nb 31 .add 3 30 (qi 5) 3 3,
 qbo nb 32 .leq 3 29 (qt 31) 3 4]) (
      .cond (qt 32) (
       .skip) (
       .exit 2))) (
      .seq (
      .block 3 (
       .seq (
       .ops [qld nb 36 25 3,
 qmv nb 37 1 22,
 qmv nb 38 11 3,
 qmv nb 39 11 3,
 qmv nb 40 10 3,
 qbo nb 41 .add 3 39 (qt 40) 3 3,
 qmv nb 42 8 3,
 qcl nb 43 86 #[qt 36, qt 37, (.const (.slice none 0 0)), qt 38, qt 41, qt 42] #[25, 22, 22, 3, 3, 3] 51,
 qmv nb 35 43 51,
 qex nb 44 35 0 22,
 qex nb 45 35 1 4,
 qsg nb 12 44 22,
 qsg nb 13 45 4]) (
       .seq (
       .ops [qmv nb 46 13 4,
 qmv nb 47 46 4,
 gop nb 48 (.move (qt 9)) 22 47 true,
 gop nb 49 (.call { callee := .builtin .len, args := #[qt 48], argTypes := #[22] }) 3 47 true,
 gop nb 50 (.binOp .eql 3 (qt 49) (qi 0) 3) 4 47 true,
 gop nb 51 (.move (qt 50)) 4 47 true,
 gop nb 52 (.move (qt 12)) 22 51 false,
 gop nb 53 (.move (qt 9)) 22 51 false,
 gop nb 54 (.call { callee := .value (.func 87), args := #[qt 52, qt 53], argTypes := #[22, 22] }) 4 51 false,
 gop nb 55 (.pick (qt 51) (.const (.bool true)) (qt 54)) 4 47 true,
 sop nb 56 (.pick (qt 47) (qt 55) (.const (.bool false))) 4]) (
       .cond (qt 56) (
        .ops [qmv nb 57 12 22,
 qsg nb 9 57 22]) (
        .skip))))) (
      .ops [qmv nb 33 11 3,
 qbo nb 34 .add 3 33 (qi 1) 3 3,
 qsg nb 11 34 3]))))))) (
   .ops [qmv nb 27 10 3,
 qbo nb 28 .add 3 27 (qi 1) 3 3,
 qsg nb 10 28 3])))))) (
 .seq (
 .ops [qmv nb 58 9 22,
 qld nb 59 25 3,
 qmv nb 60 1 22,
 qmv nb 61 9 22,
 qcl nb 62 28 #[qt 59, qt 60, qt 61] #[25, 22, 22] 22,
 qcl nb 63 29 #[qt 62] #[22] 3,
 qsg nb 6 58 22,
 qsg nb 7 63 3]) (
 .ret)))))
noncomputable def c35 (nb : Nat) : SC :=
 .seq (
 .ops [sop nb 3 (.box 25 (qt 0)) 0,
 sop nb 6 (.assign (.const (.slice none 0 0))) 22,
 sop nb 7 (.assign (.const (.bool false))) 4]) (
 .seq (
 .ops [sop nb 12 (.buildSlice 22 0 #[]) 22,
 qsg nb 8 12 22,
 sop nb 9 (.assign (.const (.bool false))) 4]) (
 .seq (
 .seq (
 .ops [sop nb 10 (.assign (qi 0)) 3]) (
 .block 0 (
  .loop (
   .seq (
   .seq (
   .ops [qmv nb 13 10 3,
 qmv nb 14 1 22,
 qln nb 15 #[qt 14] #[22] 3,
 sop nb 16 (.convert 3 99 (qt 15)) 99,
 sop nb 17 (.binOp .shl 3 (qi 1) (qt 16) 99) 3,
 qbo nb 18 .sub 3 17 (qi 1) 3 3,
 qbo nb 19 .lss 3 13 (qt 18) 3 4]) (
   .cond (qt 19) (
    .skip) (
    .exit 0))) (
   .seq (
   .block 1 (
    .seq (
    .ops [qmv nb 22 10 3,
 qcl nb 23 91 #[qt 22] #[3] 22,
 qsg nb 11 23 22]) (
    .seq (
    .opsD [qmv nb 24 9 4,
 sop nb 25 (.unOp .not 4 (qt 24)) 4,
 qmv nb 26 25 4,
 gop nb 27 (.move (qt 11)) 22 26 false,
 gop nb 28 (.move (qt 8)) 22 26 false,
 gop nb 29 (.call { callee := .value (.func 92), args := #[qt 27, qt 28], argTypes := #[22, 22] }) 4 26 false,
 sop nb 30 (.pick (qt 26) (.const (.bool true)) (qt 29)) 4,
 qmv nb 31 30 4,
 gop nb 32 (.load 25 (qt 3)) 25 31 true,
 gop nb 33 (.move (qt 1)) 22 31 true,
 gop nb 34 (.move (qt 11)) 22 31 true,
 gop nb 35 (.call { callee := .value (.func 93), args := #[qt 33, qt 34], argTypes := #[22, 22] }) 22 31 true,
 gop nb 36 (.call { callee := .value (.func 26), args := #[qt 32, qt 35], argTypes := #[25, 22] }) 3 31 true,
 gop nb 37 (.move (qt 2)) 3 31 true,
 gop nb 38 (.binOp .leq 3 (qt 36) (qt 37) 3) 4 31 true,
 sop nb 39 (.pick (qt 31) (qt 38) (.const (.bool false))) 4] [(8, 11)]) (
    .cond (qt 39) (
     .ops [qmv nb 40 11 22,
 qsg nb 8 40 22,
 sop nb 9 (.assign (.const (.bool true))) 4]) (
     .skip))))) (
   .ops [qmv nb 20 10 3,
 qbo nb 21 .add 3 20 (qi 1) 3 3,
 qsg nb 10 21 3])))))) (
 .seq (
 .ops [qmv nb 41 8 22,
 qmv nb 42 9 4,
 qsg nb 6 41 22,
 qsg nb 7 42 4]) (
 .ret))))
noncomputable def c37 (nb : Nat) : SC :=
 .seq (
 .ops [sop nb 4 (.box 25 (qt 0)) 0,
 sop nb 8 (.assign (qi 0)) 3]) (
 .seq (
 .ops [sop nb 9 (.assign (qi 0)) 3]) (
 .seq (
 .seq (
 .ops [sop nb 10 (.assign (qi 1)) 3]) (
 .block 0 (
  .loop (
   .seq (
   .seq (
   .ops [qmv nb 13 10 3,
 qbo nb 14 .leq 3 13 (qi 30) 3 4]) (
   .cond (qt 14) (
    .skip) (
    .exit 0))) (
   .seq (
   .block 1 (
    .seq (
    .opsD [sop nb 17 (.buildSlice 22 0 #[]) 22,
 sop nb 18 (.fieldAddr 25 (qt 4) 0) 0,
 qld nb 19 22 18,
 sop nb 20 (.call { callee := .builtin .append, args := #[qt 17, qt 19], argTypes := #[22, 22] }) 22,
 qmv nb 21 10 3,
 sop nb 22 (.buildSlice 22 1 #[(0, qt 21)]) 22,
 sop nb 23 (.call { callee := .builtin .append, args := #[qt 20, qt 22], argTypes := #[22, 22] }) 22,
 sop nb 24 (.fieldAddr 25 (qt 4) 1) 0,
 qld nb 25 23 24,
 sop nb 26 (.fieldAddr 25 (qt 4) 2) 0,
 qld nb 27 3 26,
 sop nb 28 (.fieldAddr 25 (qt 4) 3) 0,
 qld nb 29 3 28,
 sop nb 30 (.build 25 #[(0, qt 23), (1, qt 25), (2, qt 27), (3, qt 29)]) 25,
 sop nb 11 (.alloc 25) 0,
 nop (.store 25 (qt 11) (qt 30)) 0] [(0, 2), (0, 5), (2, 5), (3, 5), (0, 8), (3, 8), (5, 8), (6, 8), (0, 10), (3, 10), (5, 10), (6, 10), (0, 12), (3, 12), (5, 12), (6, 12), (0, 14), (2, 14), (3, 14), (5, 14), (6, 14), (8, 14), (10, 14), (12, 14)]) (
    .seq (
    .ops [sop nb 31 (.buildSlice 22 0 #[]) 22,
 qmv nb 32 1 22,
 sop nb 33 (.call { callee := .builtin .append, args := #[qt 31, qt 32], argTypes := #[22, 22] }) 22,
 qsg nb 12 33 22]) (
    .seq (
    .ops [qmv nb 34 12 22,
 qmv nb 35 2 3,
 sop nb 36 (.fieldAddr 25 (qt 4) 0) 0,
 qld nb 37 22 36,
 qln nb 38 #[qt 37] #[22] 3,
 qix nb 39 22 34 35 0,
 nop (.store 3 (qt 39) (qt 38)) 0]) (
    .seq (
    .ops [qld nb 40 25 11,
 qmv nb 41 12 22,
 qcl nb 42 26 #[qt 40, qt 41] #[25, 22] 3,
 qmv nb 43 3 3,
 qbo nb 44 .leq 3 42 (qt 43) 3 4]) (
    .cond (qt 44) (
     .ops [qmv nb 45 10 3,
 qsg nb 9 45 3]) (
     .skip))))))) (
   .ops [qmv nb 15 10 3,
 qbo nb 16 .add 3 15 (qi 1) 3 3,
 qsg nb 10 16 3])))))) (
 .seq (
 .ops [qmv nb 46 9 3,
 qsg nb 8 46 3]) (
 .ret))))
noncomputable def c42 (nb : Nat) : SC :=
 .seq (
 .ops [sop nb 3 (.box 25 (qt 0)) 0,
 sop nb 6 (.assign (.const (.slice none 0 0))) 22,
 sop nb 7 (.assign (qi 0)) 3]) (
 .seq (
 .ops [sop nb 14 (.buildSlice 22 0 #[]) 22,
 qsg nb 8 14 22,
 sop nb 9 (.assign (qi (-1))) 3]) (
 .seq (
 .seq (
 .ops [sop nb 10 (.assign (qi 0)) 3]) (
 .block 0 (
  .loop (
   .seq (
   .seq (
   .ops [qmv nb 15 10 3,
 qmv nb 16 1 56,
 qln nb 17 #[qt 16] #[56] 3,
 qbo nb 18 .sub 3 17 (qi 1) 3 3,
 sop nb 19 (.convert 3 99 (qt 18)) 99,
 sop nb 20 (.binOp .shl 3 (qi 1) (qt 19) 99) 3,
 qbo nb 21 .lss 3 15 (qt 20) 3 4]) (
   .cond (qt 21) (
    .skip) (
    .exit 0))) (
   .seq (
   .block 1 (
    .seq (
    .ops [sop nb 24 (.buildSlice 22 1 #[(0, qi 0)]) 22,
 qsg nb 11 24 22]) (
    .seq (
    .seq (
    .ops [sop nb 12 (.assign (qi 1)) 3]) (
    .block 2 (
     .loop (
      .seq (
      .seq (
      .ops [qmv nb 25 12 3,
 qmv nb 26 1 56,
 qln nb 27 #[qt 26] #[56] 3,
 qbo nb 28 .lss 3 25 (qt 27) 3 4]) (
      .cond (qt 28) (
       .skip) (
       .exit 2))) (
      .seq (
      .block 3 (
       .seq (
       .ops [qmv nb 31 10 3,
 qmv nb 32 12 3,
 qbo nb 33 .sub 3 32 (qi 1) 3 3,
 sop nb 34 (.convert 3 99 (qt 33)) 99,
 qbo nb 35 .shr 3 31 (qt 34) 99 3,
 qbo nb 36 .and 3 35 (qi 1) 3 3,
 qbo nb 37 .eql 3 36 (qi 1) 3 4]) (
       .cond (qt 37) (
        .ops [qmv nb 38 11 22,
 qmv nb 39 12 3,
 sop nb 40 (.buildSlice 22 1 #[(0, qt 39)]) 22,
 sop nb 41 (.call { callee := .builtin .append, args := #[qt 38, qt 40], argTypes := #[22, 22] }) 22,
 qsg nb 11 41 22]) (
        .skip)))) (
      .ops [qmv nb 29 12 3,
 qbo nb 30 .add 3 29 (qi 1) 3 3,
 qsg nb 12 30 3])))))) (
    .seq (
    .ops [qld nb 42 25 3,
 qmv nb 43 1 56,
 qmv nb 44 11 22,
 qmv nb 45 2 3,
 qcl nb 46 97 #[qt 42, qt 43, qt 44, qt 45] #[25, 56, 22, 3] 3,
 qsg nb 13 46 3]) (
    .seq (
    .ops [qmv nb 47 13 3,
 qbo nb 48 .geq 3 47 (qi 0) 3 4,
 qmv nb 49 48 4,
 gop nb 50 (.move (qt 9)) 3 49 true,
 gop nb 51 (.binOp .lss 3 (qt 50) (qi 0) 3) 4 49 true,
 gop nb 52 (.move (qt 51)) 4 49 true,
 gop nb 53 (.move (qt 11)) 22 52 false,
 gop nb 54 (.call { callee := .builtin .len, args := #[qt 53], argTypes := #[22] }) 3 52 false,
 gop nb 55 (.move (qt 8)) 22 52 false,
 gop nb 56 (.call { callee := .builtin .len, args := #[qt 55], argTypes := #[22] }) 3 52 false,
 gop nb 57 (.binOp .lss 3 (qt 54) (qt 56) 3) 4 52 false,
 gop nb 58 (.pick (qt 52) (.const (.bool true)) (qt 57)) 4 49 true,
 gop nb 59 (.move (qt 58)) 4 49 true,
 gop nb 60 (.move (qt 11)) 22 59 false,
 gop nb 61 (.call { callee := .builtin .len, args := #[qt 60], argTypes := #[22] }) 3 59 false,
 gop nb 62 (.move (qt 8)) 22 59 false,
 gop nb 63 (.call { callee := .builtin .len, args := #[qt 62], argTypes := #[22] }) 3 59 false,
 gop nb 64 (.binOp .eql 3 (qt 61) (qt 63) 3) 4 59 false,
 gop nb 65 (.move (qt 64)) 4 59 false,
 gop nb 66 (.move (qt 13)) 3 65 true,
 gop nb 67 (.move (qt 9)) 3 65 true,
 gop nb 68 (.binOp .lss 3 (qt 66) (qt 67) 3) 4 65 true,
 gop nb 69 (.move (qt 68)) 4 65 true,
 gop nb 70 (.move (qt 13)) 3 69 false,
 gop nb 71 (.move (qt 9)) 3 69 false,
 gop nb 72 (.binOp .eql 3 (qt 70) (qt 71) 3) 4 69 false,
 gop nb 73 (.move (qt 72)) 4 69 false,
 gop nb 74 (.move (qt 11)) 22 73 true,
 gop nb 75 (.move (qt 8)) 22 73 true,
 gop nb 76 (.call { callee := .value (.func 87), args := #[qt 74, qt 75], argTypes := #[22, 22] }) 4 73 true,
 gop nb 77 (.pick (qt 73) (qt 76) (.const (.bool false))) 4 69 false,
 gop nb 78 (.pick (qt 69) (.const (.bool true)) (qt 77)) 4 65 true,
 gop nb 79 (.pick (qt 65) (qt 78) (.const (.bool false))) 4 59 false,
 gop nb 80 (.pick (qt 59) (.const (.bool true)) (qt 79)) 4 49 true,
 sop nb 81 (.pick (qt 49) (qt 80) (.const (.bool false))) 4]) (
    .cond (qt 81) (
     .ops [qmv nb 82 11 22,
 qmv nb 83 13 3,
 qsg nb 8 82 22,
 qsg nb 9 83 3]) (
     .skip))))))) (
   .ops [qmv nb 22 10 3,
 qbo nb 23 .add 3 22 (qi 1) 3 3,
 qsg nb 10 23 3])))))) (
 .seq (
 .ops [qmv nb 84 8 22,
 qmv nb 85 9 3,
 qsg nb 6 84 22,
 qsg nb 7 85 3]) (
 .ret))))
noncomputable def c44 (nb : Nat) : SC :=
 .seq (
 .ops [sop nb 3 (.box 25 (qt 0)) 0,
 sop nb 6 (.assign (.const (.slice none 0 0))) 22,
 sop nb 7 (.assign (.const (.bool false))) 4]) (
 .seq (
 .ops [qld nb 11 25 3,
 qmv nb 12 1 56,
 qmv nb 13 2 22,
 sop nb 14 (.buildSlice 22 0 #[]) 22,
 qcl nb 15 99 #[qt 11, qt 12, qt 13, qt 14] #[25, 56, 22, 22] 56,
 qsg nb 8 15 56]) (
 .seq (
 .seq (
 .ops [qmv nb 16 8 56,
 qln nb 17 #[qt 16] #[56] 3,
 qbo nb 18 .eql 3 17 (qi 0) 3 4]) (
 .cond (qt 18) (
  .seq (
  .ops [sop nb 6 (.assign (.const (.slice none 0 0))) 22,
 sop nb 7 (.assign (.const (.bool false))) 4]) (
  .ret)) (
  .skip))) (
 .seq (
 .ops [qmv nb 19 8 56,
 sop nb 20 (.indexAddr 56 (qt 19) (qi 0)) 0,
 qld nb 21 22 20,
 qsg nb 9 21 22]) (
 .seq (
 .seq (
 .ops [sop nb 10 (.assign (qi 1)) 3]) (
 .block 0 (
  .loop (
   .seq (
   .seq (
   .ops [qmv nb 22 10 3,
 qmv nb 23 8 56,
 qln nb 24 #[qt 23] #[56] 3,
 qbo nb 25 .lss 3 22 (qt 24) 3 4]) (
   .cond (qt 25) (
    .skip) (
    .exit 0))) (
   .seq (
   .block 1 (
    .seq (
    .ops [qmv nb 28 2 22,
 qmv nb 29 8 56,
 qmv nb 30 10 3,
 qix nb 31 56 29 30 0,
 qld nb 32 22 31,
 qcl nb 33 100 #[qt 28, qt 32] #[22, 22] 3,
 qmv nb 34 2 22,
 qmv nb 35 9 22,
 qcl nb 36 100 #[qt 34, qt 35] #[22, 22] 3,
 qbo nb 37 .lss 3 33 (qt 36) 3 4]) (
    .cond (qt 37) (
     .ops [qmv nb 38 8 56,
 qmv nb 39 10 3,
 qix nb 40 56 38 39 0,
 qld nb 41 22 40,
 qsg nb 9 41 22]) (
     .skip)))) (
   .ops [qmv nb 26 10 3,
 qbo nb 27 .add 3 26 (qi 1) 3 3,
 qsg nb 10 27 3])))))) (
 .seq (
 .ops [qmv nb 42 9 22,
 qsg nb 6 42 22,
 sop nb 7 (.assign (.const (.bool true))) 4]) (
 .ret))))))
noncomputable def c46 (nb : Nat) : SC :=
 .seq (
 .ops [sop nb 4 (.box 25 (qt 0)) 0,
 sop nb 8 (.assign (.const (.slice none 0 0))) 22]) (
 .seq (
 .ops [qld nb 14 25 4,
 qmv nb 15 1 22,
 qmv nb 16 2 22,
 qcl nb 17 28 #[qt 14, qt 15, qt 16] #[25, 22, 22] 22,
 qsg nb 9 17 22]) (
 .seq (
 .ops [sop nb 18 (.buildSlice 22 0 #[]) 22,
 qsg nb 10 18 22,
 sop nb 11 (.assign (.const (.bool false))) 4]) (
 .seq (
 .seq (
 .ops [sop nb 12 (.assign (qi 0)) 3]) (
 .block 0 (
  .loop (
   .seq (
   .seq (
   .ops [qmv nb 19 12 3,
 qmv nb 20 2 22,
 qln nb 21 #[qt 20] #[22] 3,
 sop nb 22 (.convert 3 99 (qt 21)) 99,
 sop nb 23 (.binOp .shl 3 (qi 1) (qt 22) 99) 3,
 qbo nb 24 .lss 3 19 (qt 23) 3 4]) (
   .cond (qt 24) (
    .skip) (
    .exit 0))) (
   .seq (
   .block 1 (
    .seq (
    .ops [qmv nb 27 12 3,
 qcl nb 28 91 #[qt 27] #[3] 22,
 qsg nb 13 28 22]) (
    .seq (
    .ops [qmv nb 29 11 4,
 sop nb 30 (.unOp .not 4 (qt 29)) 4,
 qmv nb 31 30 4,
 gop nb 32 (.move (qt 13)) 22 31 false,
 gop nb 33 (.move (qt 10)) 22 31 false,
 gop nb 34 (.call { callee := .value (.func 92), args := #[qt 32, qt 33], argTypes := #[22, 22] }) 4 31 false,
 sop nb 35 (.pick (qt 31) (.const (.bool true)) (qt 34)) 4,
 qmv nb 36 35 4,
 gop nb 37 (.move (qt 9)) 22 36 true,
 gop nb 38 (.move (qt 13)) 22 36 true,
 gop nb 39 (.call { callee := .value (.func 93), args := #[qt 37, qt 38], argTypes := #[22, 22] }) 22 36 true,
 gop nb 40 (.call { callee := .value (.func 29), args := #[qt 39], argTypes := #[22] }) 3 36 true,
 gop nb 41 (.move (qt 3)) 3 36 true,
 gop nb 42 (.binOp .leq 3 (qt 40) (qt 41) 3) 4 36 true,
 sop nb 43 (.pick (qt 36) (qt 42) (.const (.bool false))) 4]) (
    .cond (qt 43) (
     .ops [qmv nb 44 13 22,
 qsg nb 10 44 22,
 sop nb 11 (.assign (.const (.bool true))) 4]) (
     .skip))))) (
   .ops [qmv nb 25 12 3,
 qbo nb 26 .add 3 25 (qi 1) 3 3,
 qsg nb 12 26 3])))))) (
 .seq (
 .ops [qmv nb 45 10 22,
 qsg nb 8 45 22]) (
 .ret)))))
noncomputable def c48 (nb : Nat) : SC :=
 .seq (
 .ops [sop nb 2 (.assign (qi 0)) 3]) (
 .seq (
 .ops [sop nb 3 (.assign (qi 0)) 3]) (
 .seq (
 .seq (
 .ops [sop nb 4 (.assign (qi 0)) 3]) (
 .block 0 (
  .loop (
   .seq (
   .seq (
   .ops [qmv nb 5 4 3,
 qmv nb 6 0 22,
 qln nb 7 #[qt 6] #[22] 3,
 qbo nb 8 .lss 3 5 (qt 7) 3 4]) (
   .cond (qt 8) (
    .skip) (
    .exit 0))) (
   .seq (
   .block 1 (
    .seq (
    .ops [qmv nb 11 0 22,
 qmv nb 12 4 3,
 qix nb 13 22 11 12 0,
 qld nb 14 3 13,
 qbo nb 15 .eql 3 14 (qi (-1)) 3 4]) (
    .cond (qt 15) (
     .ops [qmv nb 16 3 3,
 qbo nb 17 .add 3 16 (qi 1) 3 3,
 qsg nb 3 17 3]) (
     .skip)))) (
   .ops [qmv nb 9 4 3,
 qbo nb 10 .add 3 9 (qi 1) 3 3,
 qsg nb 4 10 3])))))) (
 .seq (
 .ops [qmv nb 18 3 3,
 qsg nb 2 18 3]) (
 .ret))))
noncomputable def c49 (nb : Nat) : SC :=
 .seq (
 .ops [sop nb 4 (.box 25 (qt 0)) 0,
 sop nb 7 (.box 71 (qt 3)) 0,
 sop nb 8 (.assign (.const (.slice none 0 0))) 56,
 sop nb 9 (.assign (.const (.bool false))) 4]) (
 .seq (
 .ops [qld nb 18 25 4,
 qmv nb 19 1 22,
 qcl nb 20 106 #[qt 18, qt 19] #[25, 22] 56,
 sop nb 21 (.buildSlice 56 0 #[]) 56,
 qsg nb 10 20 56,
 qsg nb 11 21 56,
 sop nb 12 (.assign (.const (.bool false))) 4]) (
 .seq (
 .seq (
 .ops [sop nb 13 (.assign (qi 0)) 3]) (
 .block 0 (
  .loop (
   .seq (
   .seq (
   .ops [qmv nb 22 13 3,
 qmv nb 23 1 22,
 qln nb 24 #[qt 23] #[22] 3,
 qbo nb 25 .lss 3 22 (qt 24) 3 4]) (
   .cond (qt 25) (
    .skip) (
    .exit 0))) (
   .seq (
   .block 1 (
    .seq (
    .ops [sop nb 28 (.buildSlice 22 0 #[]) 22,
 qsg nb 14 28 22]) (
    .seq (
    .seq (
    .ops [sop nb 15 (.assign (qi 0)) 3]) (
    .block 2 (
     .loop (
      .seq (
      .seq (
      .ops [qmv nb 29 15 3,
 sop nb 30 (.fieldAddr 25 (qt 4) 0) 0,
 qld nb 31 22 30,
 qln nb 32 #[qt 31] #[22] 3,
 qbo nb 33 .lss 3 29 (qt 32) 3 4]) (
      .cond (qt 33) (
       .skip) (
       .exit 2))) (
      .seq (
      .block 3 (
       .seq (
       .ops [sop nb 16 (.assign (.const (.bool false))) 4]) (
       .seq (
       .seq (
       .ops [sop nb 17 (.assign (qi 0)) 3]) (
       .block 4 (
        .loop (
         .seq (
         .seq (
         .ops [qmv nb 36 17 3,
 qmv nb 37 10 56,
 qln nb 38 #[qt 37] #[56] 3,
 qbo nb 39 .lss 3 36 (qt 38) 3 4]) (
         .cond (qt 39) (
          .skip) (
          .exit 4))) (
         .seq (
         .block 5 (
          .seq (
          .opsD [qmv nb 42 10 56,
 qmv nb 43 17 3,
 qix nb 44 56 42 43 0,
 qld nb 45 22 44,
 qmv nb 46 13 3,
 qix nb 47 22 45 46 0,
 qld nb 48 3 47,
 qmv nb 49 15 3,
 qbo nb 50 .eql 3 48 (qt 49) 3 4,
 qmv nb 51 50 4,
 gop nb 52 (.fieldAddr 25 (qt 4) 2) 0 51 true,
 gop nb 53 (.load 3 (qt 52)) 3 51 true,
 gop nb 54 (.binOp .mul 3 (qi 2) (qt 53) 3) 3 51 true,
 gop nb 55 (.load 25 (qt 4)) 25 51 true,
 gop nb 56 (.move (qt 10)) 56 51 true,
 gop nb 57 (.move (qt 17)) 3 51 true,
 gop nb 58 (.indexAddr 56 (qt 56) (qt 57)) 0 51 true,
 gop nb 59 (.load 22 (qt 58)) 22 51 true,
 gop nb 60 (.call { callee := .value (.func 78), args := #[qt 55, qt 59], argTypes := #[25, 22] }) 3 51 true,
 gop nb 61 (.binOp .add 3 (qt 54) (qt 60) 3) 3 51 true,
 gop nb 62 (.move (qt 2)) 22 51 true,
 gop nb 63 (.call { callee := .value (.func 79), args := #[qt 62], argTypes := #[22] }) 3 51 true,
 gop nb 64 (.binOp .add 3 (qt 61) (qt 63) 3) 3 51 true,
 gop nb 65 (.fieldAddr 71 (qt 7) 0) 0 51 true,
 gop nb 66 (.load 3 (qt 65)) 3 51 true,
 gop nb 67 (.fieldAddr 71 (qt 7) 1) 0 51 true,
 gop nb 68 (.load 3 (qt 67)) 3 51 true,
 gop nb 69 (.call { callee := .value (.func 36), args := #[qt 64, qt 66, qt 68], argTypes := #[3, 3, 3] }) 4 51 true,
 sop nb 70 (.pick (qt 51) (qt 69) (.const (.bool false))) 4] [(11, 18), (11, 21), (18, 24), (21, 24), (18, 26), (21, 26)]) (
          .cond (qt 70) (
           .ops [sop nb 16 (.assign (.const (.bool true))) 4,
 sop nb 12 (.assign (.const (.bool true))) 4]) (
           .skip)))) (
         .ops [qmv nb 40 17 3,
 qbo nb 41 .add 3 40 (qi 1) 3 3,
 qsg nb 17 41 3])))))) (
       .seq (
       .ops [qmv nb 71 16 4]) (
       .cond (qt 71) (
        .ops [qmv nb 72 14 22,
 qmv nb 73 15 3,
 sop nb 74 (.buildSlice 22 1 #[(0, qt 73)]) 22,
 sop nb 75 (.call { callee := .builtin .append, args := #[qt 72, qt 74], argTypes := #[22, 22] }) 22,
 qsg nb 14 75 22]) (
        .skip)))))) (
      .ops [qmv nb 34 15 3,
 qbo nb 35 .add 3 34 (qi 1) 3 3,
 qsg nb 15 35 3])))))) (
    .seq (
    .ops [qmv nb 76 1 22,
 qmv nb 77 13 3,
 qix nb 78 22 76 77 0,
 qld nb 79 3 78,
 qbo nb 80 .eql 3 79 (qi (-1)) 3 4]) (
    .cond (qt 80) (
     .ops [qmv nb 81 11 56,
 qmv nb 82 14 22,
 sop nb 83 (.buildSlice 56 1 #[(0, qt 82)]) 56,
 sop nb 84 (.call { callee := .builtin .append, args := #[qt 81, qt 83], argTypes := #[56, 56] }) 56,
 qsg nb 11 84 56]) (
     .skip)))))) (
   .ops [qmv nb 26 13 3,
 qbo nb 27 .add 3 26 (qi 1) 3 3,
 qsg nb 13 27 3])))))) (
 .seq (
 .ops [qmv nb 85 11 56,
 qmv nb 86 12 4,
 qsg nb 8 85 56,
 qsg nb 9 86 4]) (
 .ret))))
noncomputable def c86 (nb : Nat) : SC :=
 .seq (
 .ops [sop nb 6 (.box 25 (qt 0)) 0,
 sop nb 12 (.assign (.const (.slice none 0 0))) 22,
 sop nb 13 (.assign (.const (.bool false))) 4]) (
 .seq (
 .ops [qmv nb 23 2 22,
 qln nb 24 #[qt 23] #[22] 3,
 qsg nb 14 24 3]) (
 .seq (
 .seq (
 .ops [qmv nb 25 14 3,
 qmv nb 26 1 22,
 qln nb 27 #[qt 26] #[22] 3,
 qbo nb 28 .sub 3 27 (qi 1) 3 3,
 qbo nb 29 .eql 3 25 (qt 28) 3 4]) (
 .cond (qt 29) (
  .seq (
  .ops [qmv nb 30 2 22,
 qmv nb 31 5 3,
 qbo nb 32 .eql 3 31 (qi 0) 3 4,
 qsg nb 12 30 22,
 qsg nb 13 32 4]) (
  .ret)) (
  .skip))) (
 .seq (
 .ops [sop nb 15 (.assign (qi 0)) 3,
 sop nb 16 (.assign (qi 0)) 3]) (
 .seq (
 .seq (
 .ops [qmv nb 33 14 3,
 qbo nb 34 .add 3 33 (qi 1) 3 3,
 qsg nb 17 34 3]) (
 .block 0 (
  .loop (
   .seq (
   .seq (
   .ops [qmv nb 35 17 3,
 qmv nb 36 1 22,
 qln nb 37 #[qt 36] #[22] 3,
 qbo nb 38 .sub 3 37 (qi 1) 3 3,
 qbo nb 39 .lss 3 35 (qt 38) 3 4]) (
   .cond (qt 39) (
    .skip) (
    .exit 0))) (
   .seq (
   .block 1 (
    .seq (
    .ops [qld nb 42 25 6,
 qmv nb 43 1 22,
 qmv nb 44 17 3,
 qix nb 45 22 43 44 0,
 qld nb 46 3 45,
 qmv nb 47 1 22,
 qmv nb 48 17 3,
 qbo nb 49 .add 3 48 (qi 1) 3 3,
 qix nb 50 22 47 49 0,
 qld nb 51 3 50,
 qcl nb 52 81 #[qt 42, qt 46, qt 51] #[25, 3, 3] 3,
 qsg nb 18 52 3]) (
    .seq (
    .ops [qmv nb 53 15 3,
 qmv nb 54 4 3,
 qmv nb 55 18 3,
 qbo nb 56 .sub 3 54 (qt 55) 3 3,
 qbo nb 57 .add 3 53 (qt 56) 3 3,
 qsg nb 15 57 3]) (
    .ops [qmv nb 58 16 3,
 qld nb 59 25 6,
 qmv nb 60 1 22,
 qmv nb 61 17 3,
 qix nb 62 22 60 61 0,
 qld nb 63 3 62,
 qmv nb 64 1 22,
 qmv nb 65 17 3,
 qbo nb 66 .add 3 65 (qi 1) 3 3,
 qix nb 67 22 64 66 0,
 qld nb 68 3 67,
 qcl nb 69 113 #[qt 59, qt 63, qt 68] #[25, 3, 3] 3,
 qmv nb 70 3 3,
 qmv nb 71 18 3,
 qbo nb 72 .sub 3 70 (qt 71) 3 3,
 sop nb 73 (.call { callee := .builtin .max, args := #[qt 69, qt 72], argTypes := #[3, 3] }) 3,
 qbo nb 74 .add 3 58 (qt 73) 3 3,
 qsg nb 16 74 3])))) (
   .ops [qmv nb 40 17 3,
 qbo nb 41 .add 3 40 (qi 1) 3 3,
 qsg nb 17 41 3])))))) (
 .seq (
 .ops [qld nb 75 25 6,
 qmv nb 76 1 22,
 qmv nb 77 14 3,
 qix nb 78 22 76 77 0,
 qld nb 79 3 78,
 qmv nb 80 1 22,
 qmv nb 81 14 3,
 qbo nb 82 .add 3 81 (qi 1) 3 3,
 qix nb 83 22 80 82 0,
 qld nb 84 3 83,
 qcl nb 85 81 #[qt 75, qt 79, qt 84] #[25, 3, 3] 3,
 qsg nb 19 85 3]) (
 .seq (
 .seq (
 .ops [qld nb 86 25 6,
 qmv nb 87 1 22,
 qmv nb 88 14 3,
 qix nb 89 22 87 88 0,
 qld nb 90 3 89,
 qmv nb 91 1 22,
 qmv nb 92 14 3,
 qbo nb 93 .add 3 92 (qi 1) 3 3,
 qix nb 94 22 91 93 0,
 qld nb 95 3 94,
 qcl nb 96 113 #[qt 86, qt 90, qt 95] #[25, 3, 3] 3,
 qmv nb 97 3 3,
 qmv nb 98 19 3,
 qbo nb 99 .sub 3 97 (qt 98) 3 3,
 sop nb 100 (.call { callee := .builtin .max, args := #[qt 96, qt 99], argTypes := #[3, 3] }) 3,
 qsg nb 20 100 3]) (
 .block 2 (
  .loop (
   .seq (
   .seq (
   .ops [qmv nb 101 20 3,
 qmv nb 102 4 3,
 qmv nb 103 19 3,
 qbo nb 104 .sub 3 102 (qt 103) 3 3,
 qbo nb 105 .leq 3 101 (qt 104) 3 4]) (
   .cond (qt 105) (
    .skip) (
    .exit 2))) (
   .seq (
   .block 3 (
    .seq (
    .seq (
    .ops [qmv nb 108 5 3,
 qmv nb 109 20 3,
 qbo nb 110 .sub 3 108 (qt 109) 3 3,
 qmv nb 111 15 3,
 qbo nb 112 .gtr 3 110 (qt 111) 3 4,
 qmv nb 113 112 4,
 gop nb 114 (.move (qt 5)) 3 113 false,
 gop nb 115 (.move (qt 20)) 3 113 false,
 gop nb 116 (.binOp .sub 3 (qt 114) (qt 115) 3) 3 113 false,
 gop nb 117 (.move (qt 16)) 3 113 false,
 gop nb 118 (.binOp .lss 3 (qt 116) (qt 117) 3) 4 113 false,
 sop nb 119 (.pick (qt 113) (.const (.bool true)) (qt 118)) 4]) (
    .cond (qt 119) (
     .exit 3) (
     .skip))) (
    .seq (
    .opsD [qld nb 121 25 6,
 qmv nb 122 1 22,
 sop nb 123 (.buildSlice 22 0 #[]) 22,
 qmv nb 124 2 22,
 sop nb 125 (.call { callee := .builtin .append, args := #[qt 123, qt 124], argTypes := #[22, 22] }) 22,
 qmv nb 126 20 3,
 sop nb 127 (.buildSlice 22 1 #[(0, qt 126)]) 22,
 sop nb 128 (.call { callee := .builtin .append, args := #[qt 125, qt 127], argTypes := #[22, 22] }) 22,
 qmv nb 129 3 3,
 qmv nb 130 4 3,
 qmv nb 131 5 3,
 qmv nb 132 20 3,
 qbo nb 133 .sub 3 131 (qt 132) 3 3,
 qcl nb 134 86 #[qt 121, qt 122, qt 128, qt 129, qt 130, qt 133] #[25, 22, 22, 3, 3, 3] 51,
 qmv nb 120 134 51,
 qex nb 135 120 0 22,
 qex nb 136 120 1 4,
 qsg nb 21 135 22,
 qsg nb 22 136 4] [(0, 2), (0, 4), (0, 6), (2, 6), (4, 6), (0, 7)]) (
    .seq (
    .ops [qmv nb 137 22 4]) (
    .cond (qt 137) (
     .seq (
     .ops [qmv nb 138 21 22,
 qsg nb 12 138 22,
 sop nb 13 (.assign (.const (.bool true))) 4]) (
     .ret)) (
     .skip)))))) (
   .ops [qmv nb 106 20 3,
 qbo nb 107 .add 3 106 (qi 1) 3 3,
 qsg nb 20 107 3])))))) (
 .seq (
 .ops [sop nb 12 (.assign (.const (.slice none 0 0))) 22,
 sop nb 13 (.assign (.const (.bool false))) 4]) (
 .ret))))))))
noncomputable def c87 (nb : Nat) : SC :=
 .seq (
 .ops [sop nb 4 (.assign (.const (.bool false))) 4]) (
 .seq (
 .seq (
 .ops [sop nb 5 (.assign (qi 0)) 3]) (
 .block 0 (
  .loop (
   .seq (
   .seq (
   .ops [qmv nb 6 5 3,
 qmv nb 7 0 22,
 qln nb 8 #[qt 7] #[22] 3,
 qbo nb 9 .lss 3 6 (qt 8) 3 4]) (
   .cond (qt 9) (
    .skip) (
    .exit 0))) (
   .seq (
   .block 1 (
    .seq (
    .ops [qmv nb 12 0 22,
 qmv nb 13 5 3,
 qix nb 14 22 12 13 0,
 qld nb 15 3 14,
 qmv nb 16 1 22,
 qmv nb 17 5 3,
 qix nb 18 22 16 17 0,
 qld nb 19 3 18,
 qbo nb 20 .neq 3 15 (qt 19) 3 4]) (
    .cond (qt 20) (
     .seq (
     .ops [qmv nb 21 0 22,
 qmv nb 22 5 3,
 qix nb 23 22 21 22 0,
 qld nb 24 3 23,
 qmv nb 25 1 22,
 qmv nb 26 5 3,
 qix nb 27 22 25 26 0,
 qld nb 28 3 27,
 qbo nb 29 .lss 3 24 (qt 28) 3 4,
 qsg nb 4 29 4]) (
     .ret)) (
     .skip)))) (
   .ops [qmv nb 10 5 3,
 qbo nb 11 .add 3 10 (qi 1) 3 3,
 qsg nb 5 11 3])))))) (
 .seq (
 .ops [sop nb 4 (.assign (.const (.bool false))) 4]) (
 .ret)))
noncomputable def c91 (nb : Nat) : SC :=
 .seq (
 .ops [sop nb 2 (.assign (.const (.slice none 0 0))) 22]) (
 .seq (
 .ops [sop nb 5 (.buildSlice 22 0 #[]) 22,
 qsg nb 3 5 22]) (
 .seq (
 .seq (
 .ops [sop nb 4 (.assign (qi 0)) 3]) (
 .block 0 (
  .loop (
   .seq (
   .seq (
   .ops [qmv nb 6 0 3,
 qmv nb 7 4 3,
 sop nb 8 (.convert 3 99 (qt 7)) 99,
 qbo nb 9 .shr 3 6 (qt 8) 99 3,
 qbo nb 10 .gtr 3 9 (qi 0) 3 4]) (
   .cond (qt 10) (
    .skip) (
    .exit 0))) (
   .seq (
   .block 1 (
    .seq (
    .ops [qmv nb 13 0 3,
 qmv nb 14 4 3,
 sop nb 15 (.convert 3 99 (qt 14)) 99,
 qbo nb 16 .shr 3 13 (qt 15) 99 3,
 qbo nb 17 .and 3 16 (qi 1) 3 3,
 qbo nb 18 .eql 3 17 (qi 1) 3 4]) (
    .cond (qt 18) (
     .ops [qmv nb 19 3 22,
 qmv nb 20 4 3,
 sop nb 21 (.buildSlice 22 1 #[(0, qt 20)]) 22,
 sop nb 22 (.call { callee := .builtin .append, args := #[qt 19, qt 21], argTypes := #[22, 22] }) 22,
 qsg nb 3 22 22]) (
     .skip)))) (
   .ops [qmv nb 11 4 3,
 qbo nb 12 .add 3 11 (qi 1) 3 3,
 qsg nb 4 12 3])))))) (
 .seq (
 .ops [qmv nb 23 3 22,
 qsg nb 2 23 22]) (
 .ret))))
noncomputable def c92 (nb : Nat) : SC :=
 .seq (
 .ops [sop nb 4 (.assign (.const (.bool false))) 4]) (
 .seq (
 .seq (
 .ops [qmv nb 5 0 22,
 qln nb 6 #[qt 5] #[22] 3,
 qmv nb 7 1 22,
 qln nb 8 #[qt 7] #[22] 3,
 qbo nb 9 .neq 3 6 (qt 8) 3 4]) (
 .cond (qt 9) (
  .seq (
  .ops [qmv nb 10 0 22,
 qln nb 11 #[qt 10] #[22] 3,
 qmv nb 12 1 22,
 qln nb 13 #[qt 12] #[22] 3,
 qbo nb 14 .lss 3 11 (qt 13) 3 4,
 qsg nb 4 14 4]) (
  .ret)) (
  .skip))) (
 .seq (
 .ops [qmv nb 15 0 22,
 qmv nb 16 1 22,
 qcl nb 17 87 #[qt 15, qt 16] #[22, 22] 4,
 qsg nb 4 17 4]) (
 .ret)))
noncomputable def c93 (nb : Nat) : SC :=
 .seq (
 .ops [sop nb 4 (.assign (.const (.slice none 0 0))) 22]) (
 .seq (
 .ops [sop nb 7 (.buildSlice 22 0 #[]) 22,
 qsg nb 5 7 22]) (
 .seq (
 .seq (
 .ops [sop nb 6 (.assign (qi 0)) 3]) (
 .block 0 (
  .loop (
   .seq (
   .seq (
   .ops [qmv nb 8 6 3,
 qmv nb 9 0 22,
 qln nb 10 #[qt 9] #[22] 3,
 qbo nb 11 .lss 3 8 (qt 10) 3 4]) (
   .cond (qt 11) (
    .skip) (
    .exit 0))) (
   .seq (
   .block 1 (
    .seq (
    .ops [qmv nb 14 1 22,
 qmv nb 15 6 3,
 qcl nb 16 119 #[qt 14, qt 15] #[22, 3] 4,
 sop nb 17 (.unOp .not 4 (qt 16)) 4]) (
    .cond (qt 17) (
     .ops [qmv nb 18 5 22,
 qmv nb 19 0 22,
 qmv nb 20 6 3,
 qix nb 21 22 19 20 0,
 qld nb 22 3 21,
 sop nb 23 (.buildSlice 22 1 #[(0, qt 22)]) 22,
 sop nb 24 (.call { callee := .builtin .append, args := #[qt 18, qt 23], argTypes := #[22, 22] }) 22,
 qsg nb 5 24 22]) (
     .skip)))) (
   .ops [qmv nb 12 6 3,
 qbo nb 13 .add 3 12 (qi 1) 3 3,
 qsg nb 6 13 3])))))) (
 .seq (
 .ops [qmv nb 25 5 22,
 qsg nb 4 25 22]) (
 .ret))))
noncomputable def c97 (nb : Nat) : SC :=
 .seq (
 .ops [sop nb 4 (.box 25 (qt 0)) 0,
 sop nb 8 (.assign (qi 0)) 3]) (
 .seq (
 .ops [sop nb 9 (.assign (qi 0)) 3]) (
 .seq (
 .seq (
 .ops [sop nb 10 (.assign (qi 0)) 3]) (
 .block 0 (
  .loop (
   .seq (
   .seq (
   .ops [qmv nb 13 10 3,
 qmv nb 14 2 22,
 qln nb 15 #[qt 14] #[22] 3,
 qbo nb 16 .lss 3 13 (qt 15) 3 4]) (
   .cond (qt 16) (
    .skip) (
    .exit 0))) (
   .seq (
   .block 1 (
    .seq (
    .ops [qmv nb 19 1 56,
 qln nb 20 #[qt 19] #[56] 3,
 qsg nb 11 20 3]) (
    .seq (
    .seq (
    .ops [qmv nb 21 10 3,
 qbo nb 22 .add 3 21 (qi 1) 3 3,
 qmv nb 23 2 22,
 qln nb 24 #[qt 23] #[22] 3,
 qbo nb 25 .lss 3 22 (qt 24) 3 4]) (
    .cond (qt 25) (
     .ops [qmv nb 26 2 22,
 qmv nb 27 10 3,
 qbo nb 28 .add 3 27 (qi 1) 3 3,
 qix nb 29 22 26 28 0,
 qld nb 30 3 29,
 qsg nb 11 30 3]) (
     .skip))) (
    .seq (
    .ops [qmv nb 31 3 3,
 qld nb 32 25 4,
 qmv nb 33 1 56,
 qmv nb 34 2 22,
 qmv nb 35 10 3,
 qix nb 36 22 34 35 0,
 qld nb 37 3 36,
 qmv nb 38 11 3,
 sop nb 39 (.slice 56 (qt 33) (some (qt 37)) (some (qt 38)) none) 56,
 qcl nb 40 124 #[qt 32, qt 39] #[25, 56] 3,
 qbo nb 41 .sub 3 31 (qt 40) 3 3,
 qsg nb 12 41 3]) (
    .seq (
    .seq (
    .ops [qmv nb 42 12 3,
 qbo nb 43 .lss 3 42 (qi 0) 3 4]) (
    .cond (qt 43) (
     .seq (
     .ops [sop nb 8 (.assign (qi (-1))) 3]) (
     .ret)) (
     .skip))) (
    .ops [qmv nb 44 9 3,
 qmv nb 45 12 3,
 sop nb 46 (.call { callee := .builtin .max, args := #[qt 44, qt 45], argTypes := #[3, 3] }) 3,
 qsg nb 9 46 3])))))) (
   .ops [qmv nb 17 10 3,
 qbo nb 18 .add 3 17 (qi 1) 3 3,
 qsg nb 10 18 3])))))) (
 .seq (
 .ops [qmv nb 47 9 3,
 qsg nb 8 47 3]) (
 .ret))))
noncomputable def c99 (nb : Nat) : SC :=
 .seq (
 .ops [sop nb 4 (.box 25 (qt 0)) 0,
 sop nb 8 (.assign (.const (.slice none 0 0))) 56]) (
 .seq (
 .seq (
 .ops [qmv nb 11 3 22,
 qln nb 12 #[qt 11] #[22] 3,
 qmv nb 13 1 56,
 qln nb 14 #[qt 13] #[56] 3,
 qbo nb 15 .eql 3 12 (qt 14) 3 4]) (
 .cond (qt 15) (
  .seq (
  .ops [qmv nb 16 3 22,
 sop nb 17 (.buildSlice 56 1 #[(0, qt 16)]) 56,
 qsg nb 8 17 56]) (
  .ret)) (
  .skip))) (
 .seq (
 .ops [sop nb 18 (.buildSlice 56 0 #[]) 56,
 qsg nb 9 18 56]) (
 .seq (
 .seq (
 .ops [sop nb 10 (.assign (qi 0)) 3]) (
 .block 0 (
  .loop (
   .seq (
   .seq (
   .ops [qmv nb 19 10 3,
 qmv nb 20 2 22,
 qln nb 21 #[qt 20] #[22] 3,
 qbo nb 22 .lss 3 19 (qt 21) 3 4]) (
   .cond (qt 22) (
    .skip) (
    .exit 0))) (
   .seq (
   .block 1 (
    .seq (
    .opsD [qmv nb 25 3 22,
 qmv nb 26 10 3,
 qcl nb 27 119 #[qt 25, qt 26] #[22, 3] 4,
 sop nb 28 (.unOp .not 4 (qt 27)) 4,
 qmv nb 29 28 4,
 gop nb 30 (.load 25 (qt 4)) 25 29 true,
 gop nb 31 (.move (qt 1)) 56 29 true,
 gop nb 32 (.move (qt 3)) 22 29 true,
 gop nb 33 (.call { callee := .builtin .len, args := #[qt 32], argTypes := #[22] }) 3 29 true,
 gop nb 34 (.indexAddr 56 (qt 31) (qt 33)) 0 29 true,
 gop nb 35 (.load 22 (qt 34)) 22 29 true,
 gop nb 36 (.call { callee := .value (.func 26), args := #[qt 30, qt 35], argTypes := #[25, 22] }) 3 29 true,
 gop nb 37 (.move (qt 2)) 22 29 true,
 gop nb 38 (.move (qt 10)) 3 29 true,
 gop nb 39 (.indexAddr 22 (qt 37) (qt 38)) 0 29 true,
 gop nb 40 (.load 3 (qt 39)) 3 29 true,
 gop nb 41 (.binOp .leq 3 (qt 36) (qt 40) 3) 4 29 true,
 sop nb 42 (.pick (qt 29) (qt 41) (.const (.bool false))) 4] [(11, 14), (11, 15)]) (
    .cond (qt 42) (
     .opsD [qmv nb 43 9 56,
 qld nb 44 25 4,
 qmv nb 45 1 56,
 qmv nb 46 2 22,
 sop nb 47 (.buildSlice 22 0 #[]) 22,
 qmv nb 48 3 22,
 sop nb 49 (.call { callee := .builtin .append, args := #[qt 47, qt 48], argTypes := #[22, 22] }) 22,
 qmv nb 50 10 3,
 sop nb 51 (.buildSlice 22 1 #[(0, qt 50)]) 22,
 sop nb 52 (.call { callee := .builtin .append, args := #[qt 49, qt 51], argTypes := #[22, 22] }) 22,
 qcl nb 53 99 #[qt 44, qt 45, qt 46, qt 52] #[25, 56, 22, 22] 56,
 sop nb 54 (.call { callee := .builtin .append, args := #[qt 43, qt 53], argTypes := #[56, 56] }) 56,
 qsg nb 9 54 56] [(1, 4), (1, 6), (1, 8), (4, 8), (6, 8), (1, 9)]) (
     .skip)))) (
   .ops [qmv nb 23 10 3,
 qbo nb 24 .add 3 23 (qi 1) 3 3,
 qsg nb 10 24 3])))))) (
 .seq (
 .ops [qmv nb 55 9 56,
 qsg nb 8 55 56]) (
 .ret)))))
noncomputable def c100 (nb : Nat) : SC :=
 .seq (
 .ops [sop nb 4 (.assign (qi 0)) 3]) (
 .seq (
 .ops [sop nb 5 (.assign (qi 0)) 3]) (
 .seq (
 .seq (
 .ops [sop nb 6 (.assign (qi 0)) 3]) (
 .block 0 (
  .loop (
   .seq (
   .seq (
   .ops [qmv nb 7 6 3,
 qmv nb 8 1 22,
 qln nb 9 #[qt 8] #[22] 3,
 qbo nb 10 .lss 3 7 (qt 9) 3 4]) (
   .cond (qt 10) (
    .skip) (
    .exit 0))) (
   .seq (
   .block 1 (
    .ops [qmv nb 13 5 3,
 qmv nb 14 0 22,
 qmv nb 15 1 22,
 qmv nb 16 6 3,
 qix nb 17 22 15 16 0,
 qld nb 18 3 17,
 qix nb 19 22 14 18 0,
 qld nb 20 3 19,
 qbo nb 21 .add 3 13 (qt 20) 3 3,
 qsg nb 5 21 3])) (
   .ops [qmv nb 11 6 3,
 qbo nb 12 .add 3 11 (qi 1) 3 3,
 qsg nb 6 12 3])))))) (
 .seq (
 .ops [qmv nb 22 5 3,
 qsg nb 4 22 3]) (
 .ret))))
noncomputable def c106 (nb : Nat) : SC :=
 .seq (
 .ops [sop nb 2 (.box 25 (qt 0)) 0,
 sop nb 4 (.assign (.const (.slice none 0 0))) 56]) (
 .seq (
 .seq (
 .ops [sop nb 5 (.assign (qi 0)) 3]) (
 .block 0 (
  .loop (
   .seq (
   .seq (
   .ops [qmv nb 9 5 3,
 qmv nb 10 1 22,
 qln nb 11 #[qt 10] #[22] 3,
 qbo nb 12 .lss 3 9 (qt 11) 3 4]) (
   .cond (qt 12) (
    .skip) (
    .exit 0))) (
   .seq (
   .block 1 (
    .seq (
    .seq (
    .ops [qmv nb 15 1 22,
 qmv nb 16 5 3,
 qix nb 17 22 15 16 0,
 qld nb 18 3 17,
 qbo nb 19 .neq 3 18 (qi (-1)) 3 4]) (
    .cond (qt 19) (
     .exit 1) (
     .skip))) (
    .seq (
    .ops [sop nb 20 (.buildSlice 56 0 #[]) 56,
 qsg nb 6 20 56]) (
    .seq (
    .seq (
    .ops [sop nb 7 (.assign (qi 0)) 3]) (
    .block 2 (
     .loop (
      .seq (
      .seq (
      .ops [qmv nb 21 7 3,
 sop nb 22 (.fieldAddr 25 (qt 2) 0) 0,
 qld nb 23 22 22,
 qln nb 24 #[qt 23] #[22] 3,
 qbo nb 25 .lss 3 21 (qt 24) 3 4]) (
      .cond (qt 25) (
       .skip) (
       .exit 2))) (
      .seq (
      .block 3 (
       .seq (
       .ops [sop nb 28 (.buildSlice 22 0 #[]) 22,
 qmv nb 29 1 22,
 sop nb 30 (.call { callee := .builtin .append, args := #[qt 28, qt 29], argTypes := #[22, 22] }) 22,
 qsg nb 8 30 22]) (
       .seq (
       .ops [qmv nb 31 8 22,
 qmv nb 32 5 3,
 qmv nb 33 7 3,
 qix nb 34 22 31 32 0,
 nop (.store 3 (qt 34) (qt 33)) 0]) (
       .ops [qmv nb 35 6 56,
 qld nb 36 25 2,
 qmv nb 37 8 22,
 qcl nb 38 106 #[qt 36, qt 37] #[25, 22] 56,
 sop nb 39 (.call { callee := .builtin .append, args := #[qt 35, qt 38], argTypes := #[56, 56] }) 56,
 qsg nb 6 39 56])))) (
      .ops [qmv nb 26 7 3,
 qbo nb 27 .add 3 26 (qi 1) 3 3,
 qsg nb 7 27 3])))))) (
    .seq (
    .ops [qmv nb 40 6 56,
 qsg nb 4 40 56]) (
    .ret)))))) (
   .ops [qmv nb 13 5 3,
 qbo nb 14 .add 3 13 (qi 1) 3 3,
 qsg nb 5 14 3])))))) (
 .seq (
 .ops [qmv nb 41 1 22,
 sop nb 42 (.buildSlice 56 1 #[(0, qt 41)]) 56,
 qsg nb 4 42 56]) (
 .ret)))
noncomputable def c124 (nb : Nat) : SC :=
 .seq (
 .ops [sop nb 2 (.box 25 (qt 0)) 0,
 sop nb 4 (.assign (qi 0)) 3]) (
 .seq (
 .ops [sop nb 7 (.fieldAddr 25 (qt 2) 2) 0,
 qld nb 8 3 7,
 sop nb 9 (.binOp .mul 3 (qi 2) (qt 8) 3) 3,
 qsg nb 5 9 3]) (
 .seq (
 .seq (
 .ops [sop nb 6 (.assign (qi 0)) 3]) (
 .block 0 (
  .loop (
   .seq (
   .seq (
   .ops [qmv nb 10 6 3,
 qmv nb 11 1 56,
 qln nb 12 #[qt 11] #[56] 3,
 qbo nb 13 .lss 3 10 (qt 12) 3 4]) (
   .cond (qt 13) (
    .skip) (
    .exit 0))) (
   .seq (
   .block 1 (
    .seq (
    .opsD [qmv nb 16 5 3,
 qld nb 17 25 2,
 qmv nb 18 1 56,
 qmv nb 19 6 3,
 qix nb 20 56 18 19 0,
 qld nb 21 22 20,
 qcl nb 22 26 #[qt 17, qt 21] #[25, 22] 3,
 sop nb 23 (.fieldAddr 25 (qt 2) 2) 0,
 qld nb 24 3 23,
 sop nb 25 (.binOp .mul 3 (qi 2) (qt 24) 3) 3,
 qbo nb 26 .sub 3 22 (qt 25) 3 3,
 qbo nb 27 .add 3 16 (qt 26) 3 3,
 qsg nb 5 27 3] [(6, 8)]) (
    .seq (
    .ops [qmv nb 28 6 3,
 qbo nb 29 .gtr 3 28 (qi 0) 3 4]) (
    .cond (qt 29) (
     .ops [qmv nb 30 5 3,
 sop nb 31 (.fieldAddr 25 (qt 2) 4) 0,
 qld nb 32 3 31,
 qbo nb 33 .add 3 30 (qt 32) 3 3,
 qsg nb 5 33 3]) (
     .skip))))) (
   .ops [qmv nb 14 6 3,
 qbo nb 15 .add 3 14 (qi 1) 3 3,
 qsg nb 6 15 3])))))) (
 .seq (
 .ops [qmv nb 34 5 3,
 qsg nb 4 34 3]) (
 .ret))))
end S04

namespace S04
open Go Abs
noncomputable def c50 (nb : Nat) : SC :=
 .seq (
 .ops [sop nb 1 (.box 81 (qt 0)) 0,
 sop nb 2 (.alloc 25) 0]) (
 .seq (
 .ops [sop nb 9 (.fieldAddr 81 (qt 1) 2) 0,
 sop nb 10 (.indexAddr 79 (qt 9) (qi 0)) 0,
 qld nb 11 5 10,
 sop nb 12 (.convert 5 3 (qt 11)) 3,
 qbo nb 13 .rem 3 12 (qi 12) 3 3,
 sop nb 14 (.fieldAddr 81 (qt 1) 2) 0,
 sop nb 15 (.indexAddr 79 (qt 14) (qi 1)) 0,
 qld nb 16 5 15,
 sop nb 17 (.convert 5 3 (qt 16)) 3,
 qbo nb 18 .rem 3 17 (qi 6) 3 3,
 sop nb 19 (.fieldAddr 81 (qt 1) 2) 0,
 sop nb 20 (.indexAddr 79 (qt 19) (qi 2)) 0,
 qld nb 21 5 20,
 sop nb 22 (.convert 5 3 (qt 21)) 3,
 qbo nb 23 .rem 3 22 (qi 15) 3 3,
 sop nb 24 (.build 25 #[(2, qt 13), (3, qt 18), (4, qt 23)]) 25,
 sop nb 3 (.alloc 25) 0,
 nop (.store 25 (qt 3) (qt 24)) 0]) (
 .seq (
 .seq (
 .ops [sop nb 4 (.assign (qi 0)) 3]) (
 .block 0 (
  .loop (
   .seq (
   .seq (
   .ops [qmv nb 25 4 3,
 qbo nb 26 .lss 3 25 (qi 6) 3 4]) (
   .cond (qt 26) (
    .skip) (
    .exit 0))) (
   .seq (
   .block 1 (
    .opsD [sop nb 29 (.fieldAddr 25 (qt 3) 0) 0,
 qld nb 30 22 29,
 qmv nb 31 4 3,
 sop nb 32 (.fieldAddr 81 (qt 1) 0) 0,
 qix nb 33 77 32 31 0,
 qld nb 34 5 33,
 sop nb 35 (.convert 5 3 (qt 34)) 3,
 qbo nb 36 .rem 3 35 (qi 25) 3 3,
 sop nb 37 (.binOp .add 3 (qi 1) (qt 36) 3) 3,
 sop nb 38 (.buildSlice 22 1 #[(0, qt 37)]) 22,
 sop nb 39 (.call { callee := .builtin .append, args := #[qt 30, qt 38], argTypes := #[22, 22] }) 22,
 sop nb 40 (.fieldAddr 25 (qt 3) 0) 0,
 nop (.store 22 (qt 40) (qt 39)) 0] [(1, 9)])) (
   .ops [qmv nb 27 4 3,
 qbo nb 28 .add 3 27 (qi 1) 3 3,
 qsg nb 4 28 3])))))) (
 .seq (
 .seq (
 .ops [sop nb 5 (.assign (qi 0)) 3]) (
 .block 2 (
  .loop (
   .seq (
   .seq (
   .ops [qmv nb 41 5 3,
 sop nb 42 (.fieldAddr 81 (qt 1) 1) 0,
 qld nb 43 78 42,
 qln nb 44 #[qt 43] #[78] 3,
 qbo nb 45 .lss 3 41 (qt 44) 3 4,
 qmv nb 46 45 4,
 gop nb 47 (.move (qt 5)) 3 46 true,
 gop nb 48 (.binOp .lss 3 (qt 47) (qi 10) 3) 4 46 true,
 sop nb 49 (.pick (qt 46) (qt 48) (.const (.bool false))) 4]) (
   .cond (qt 49) (
    .skip) (
    .exit 2))) (
   .seq (
   .block 3 (
    .seq (
    .opsD [sop nb 52 (.fieldAddr 81 (qt 1) 1) 0,
 qld nb 53 78 52,
 qmv nb 54 5 3,
 qix nb 55 78 53 54 0,
 sop nb 56 (.indexAddr 96 (qt 55) (qi 0)) 0,
 qld nb 57 5 56,
 sop nb 58 (.convert 5 3 (qt 57)) 3,
 qbo nb 59 .rem 3 58 (qi 6) 3 3,
 sop nb 60 (.fieldAddr 81 (qt 1) 1) 0,
 qld nb 61 78 60,
 qmv nb 62 5 3,
 qix nb 63 78 61 62 0,
 sop nb 64 (.indexAddr 96 (qt 63) (qi 0)) 0,
 qld nb 65 5 64,
 sop nb 66 (.convert 5 3 (qt 65)) 3,
 qbo nb 67 .quo 3 66 (qi 6) 3 3,
 qbo nb 68 .rem 3 67 (qi 6) 3 3,
 sop nb 69 (.fieldAddr 81 (qt 1) 1) 0,
 qld nb 70 78 69,
 qmv nb 71 5 3,
 qix nb 72 78 70 71 0,
 sop nb 73 (.indexAddr 96 (qt 72) (qi 1)) 0,
 qld nb 74 5 73,
 sop nb 75 (.convert 5 3 (qt 74)) 3,
 qbo nb 76 .rem 3 75 (qi 11) 3 3,
 qbo nb 77 .sub 3 76 (qi 5) 3 3,
 sop nb 78 (.build 108 #[(0, qt 59), (1, qt 68), (2, qt 77)]) 108,
 sop nb 6 (.alloc 108) 0,
 nop (.store 108 (qt 6) (qt 78)) 0] [(1, 27), (3, 27), (4, 27), (5, 27), (9, 27), (11, 27), (12, 27), (13, 27), (18, 27), (20, 27), (21, 27), (22, 27)]) (
    .seq (
    .ops [sop nb 7 (.assign (.const (.bool false))) 4]) (
    .seq (
    .seq (
    .ops [sop nb 8 (.assign (qi 0)) 3]) (
    .block 4 (
     .loop (
      .seq (
      .seq (
      .ops [qmv nb 79 8 3,
 sop nb 80 (.fieldAddr 25 (qt 3) 1) 0,
 qld nb 81 23 80,
 qln nb 82 #[qt 81] #[23] 3,
 qbo nb 83 .lss 3 79 (qt 82) 3 4]) (
      .cond (qt 83) (
       .skip) (
       .exit 4))) (
      .seq (
      .block 5 (
       .ops [qmv nb 86 7 4,
 qmv nb 87 86 4,
 gop nb 88 (.fieldAddr 25 (qt 3) 1) 0 87 false,
 gop nb 89 (.load 23 (qt 88)) 23 87 false,
 gop nb 90 (.move (qt 8)) 3 87 false,
 gop nb 91 (.indexAddr 23 (qt 89) (qt 90)) 0 87 false,
 gop nb 92 (.fieldAddr 108 (qt 91) 0) 0 87 false,
 gop nb 93 (.load 3 (qt 92)) 3 87 false,
 gop nb 94 (.fieldAddr 108 (qt 6) 0) 0 87 false,
 gop nb 95 (.load 3 (qt 94)) 3 87 false,
 gop nb 96 (.binOp .eql 3 (qt 93) (qt 95) 3) 4 87 false,
 gop nb 97 (.move (qt 96)) 4 87 false,
 gop nb 98 (.fieldAddr 25 (qt 3) 1) 0 97 true,
 gop nb 99 (.load 23 (qt 98)) 23 97 true,
 gop nb 100 (.move (qt 8)) 3 97 true,
 gop nb 101 (.indexAddr 23 (qt 99) (qt 100)) 0 97 true,
 gop nb 102 (.fieldAddr 108 (qt 101) 1) 0 97 true,
 gop nb 103 (.load 3 (qt 102)) 3 97 true,
 gop nb 104 (.fieldAddr 108 (qt 6) 1) 0 97 true,
 gop nb 105 (.load 3 (qt 104)) 3 97 true,
 gop nb 106 (.binOp .eql 3 (qt 103) (qt 105) 3) 4 97 true,
 gop nb 107 (.pick (qt 97) (qt 106) (.const (.bool false))) 4 87 false,
 sop nb 108 (.pick (qt 87) (.const (.bool true)) (qt 107)) 4,
 qsg nb 7 108 4])) (
      .ops [qmv nb 84 8 3,
 qbo nb 85 .add 3 84 (qi 1) 3 3,
 qsg nb 8 85 3])))))) (
    .seq (
    .ops [qmv nb 109 7 4,
 sop nb 110 (.unOp .not 4 (qt 109)) 4]) (
    .cond (qt 110) (
     .ops [sop nb 111 (.fieldAddr 25 (qt 3) 1) 0,
 qld nb 112 23 111,
 qld nb 113 108 6,
 sop nb 114 (.buildSlice 23 1 #[(0, qt 113)]) 23,
 sop nb 115 (.call { callee := .builtin .append, args := #[qt 112, qt 114], argTypes := #[23, 23] }) 23,
 sop nb 116 (.fieldAddr 25 (qt 3) 1) 0,
 nop (.store 23 (qt 116) (qt 115)) 0]) (
     .skip))))))) (
   .ops [qmv nb 50 5 3,
 qbo nb 51 .add 3 50 (qi 1) 3 3,
 qsg nb 5 51 3])))))) (
 .seq (
 .ops [qld nb 117 25 3,
 nop (.store 25 (qt 2) (qt 117)) 0]) (
 .ret)))))
@[go_sem] theorem rs50 : Go.Proofs.Try.f50.results.toList = [.cell 2 25] := by kernel_rfl
theorem k50 (nb : Nat) : sk nb Go.Proofs.Try.f50.ntmps (Go.Proofs.Try.f50.body.getD .skip) = some (c50 nb) := by kernel_rfl
theorem w50 {a : List Arg} {r : RV} (h : W Q (c50 0) [] ⟨ρ0 (a.map fun a => a.m.lv), h0⟩ (retG Q Go.Proofs.Try.f50.results.toList (retF r))) (l : Nat.ble a.length Go.Proofs.Try.f50.ntmps = true := by kernel_rfl) : Fn Q 50 a r := fn_intro Go.Proofs.Try.func50 rfl (by kernel_rfl) mix (k50 0) (Nat.le_of_ble_eq_true l) h
noncomputable def c51 (nb : Nat) : SC :=
 .seq (
 .ops [sop nb 2 (.assign (.const (.slice none 0 0))) 22]) (
 .seq (
 .ops [sop nb 5 (.buildSlice 22 0 #[]) 22,
 qsg nb 3 5 22]) (
 .seq (
 .seq (
 .ops [sop nb 4 (.assign (qi 0)) 3]) (
 .block 0 (
  .loop (
   .seq (
   .seq (
   .ops [qmv nb 6 4 3,
 qmv nb 7 0 82,
 qln nb 8 #[qt 7] #[82] 3,
 qbo nb 9 .lss 3 6 (qt 8) 3 4,
 qmv nb 10 9 4,
 gop nb 11 (.move (qt 4)) 3 10 true,
 gop nb 12 (.binOp .lss 3 (qt 11) (qi 7) 3) 4 10 true,
 sop nb 13 (.pick (qt 10) (qt 12) (.const (.bool false))) 4]) (
   .cond (qt 13) (
    .skip) (
    .exit 0))) (
   .seq (
   .block 1 (
    .ops [qmv nb 16 3 22,
 qmv nb 17 0 82,
 qmv nb 18 4 3,
 qix nb 19 82 17 18 0,
 qld nb 20 5 19,
 sop nb 21 (.convert 5 3 (qt 20)) 3,
 qbo nb 22 .rem 3 21 (qi 6) 3 3,
 sop nb 23 (.buildSlice 22 1 #[(0, qt 22)]) 22,
 sop nb 24 (.call { callee := .builtin .append, args := #[qt 16, qt 23], argTypes := #[22, 22] }) 22,
 qsg nb 3 24 22])) (
   .ops [qmv nb 14 4 3,
 qbo nb 15 .add 3 14 (qi 1) 3 3,
 qsg nb 4 15 3])))))) (
 .seq (
 .seq (
 .ops [qmv nb 25 3 22,
 qln nb 26 #[qt 25] #[22] 3,
 qbo nb 27 .eql 3 26 (qi 0) 3 4]) (
 .cond (qt 27) (
  .seq (
  .ops [sop nb 28 (.buildSlice 22 1 #[(0, qi 0)]) 22,
 qsg nb 2 28 22]) (
  .ret)) (
  .skip))) (
 .seq (
 .ops [qmv nb 29 3 22,
 qsg nb 2 29 22]) (
 .ret)))))
@[go_sem] theorem rs51 : Go.Proofs.Try.f51.results.toList = [.tmp 2] := by kernel_rfl
theorem k51 (nb : Nat) : sk nb Go.Proofs.Try.f51.ntmps (Go.Proofs.Try.f51.body.getD .skip) = some (c51 nb) := by kernel_rfl
theorem w51 {a : List Arg} {r : RV} (h : W Q (c51 0) [] ⟨ρ0 (a.map fun a => a.m.lv), h0⟩ (retG Q Go.Proofs.Try.f51.results.toList (retF r))) (l : Nat.ble a.length Go.Proofs.Try.f51.ntmps = true := by kernel_rfl) : Fn Q 51 a r := fn_intro Go.Proofs.Try.func51 rfl (by kernel_rfl) mix (k51 0) (Nat.le_of_ble_eq_true l) h
noncomputable def c52 (nb : Nat) : SC :=
 .seq (
 .ops [sop nb 1 (.box 25 (qt 0)) 0,
 sop nb 2 (.alloc 25) 0]) (
 .seq (
 .opsD [sop nb 3 (.fieldAddr 25 (qt 1) 0) 0,
 qld nb 4 22 3,
 qcl nb 5 53 #[qt 4] #[22] 22,
 sop nb 6 (.buildSlice 23 0 #[]) 23,
 sop nb 7 (.fieldAddr 25 (qt 1) 1) 0,
 qld nb 8 23 7,
 sop nb 9 (.call { callee := .builtin .append, args := #[qt 6, qt 8], argTypes := #[23, 23] }) 23,
 sop nb 10 (.fieldAddr 25 (qt 1) 0) 0,
 nop (.store 22 (qt 10) (qt 5)) 0,
 sop nb 11 (.fieldAddr 25 (qt 1) 1) 0,
 nop (.store 23 (qt 11) (qt 9)) 0] [(1, 3), (2, 3), (2, 5), (3, 5)]) (
 .seq (
 .ops [qld nb 12 25 1,
 nop (.store 25 (qt 2) (qt 12)) 0]) (
 .ret)))
@[go_sem] theorem rs52 : Go.Proofs.Try.f52.results.toList = [.cell 2 25] := by kernel_rfl
theorem k52 (nb : Nat) : sk nb Go.Proofs.Try.f52.ntmps (Go.Proofs.Try.f52.body.getD .skip) = some (c52 nb) := by kernel_rfl
theorem w52 {a : List Arg} {r : RV} (h : W Q (c52 0) [] ⟨ρ0 (a.map fun a => a.m.lv), h0⟩ (retG Q Go.Proofs.Try.f52.results.toList (retF r))) (l : Nat.ble a.length Go.Proofs.Try.f52.ntmps = true := by kernel_rfl) : Fn Q 52 a r := fn_intro Go.Proofs.Try.func52 rfl (by kernel_rfl) mix (k52 0) (Nat.le_of_ble_eq_true l) h
noncomputable def c53 (nb : Nat) : SC :=
 .seq (
 .ops [sop nb 2 (.assign (.const (.slice none 0 0))) 22]) (
 .seq (
 .ops [sop nb 3 (.buildSlice 22 0 #[]) 22,
 qmv nb 4 0 22,
 sop nb 5 (.call { callee := .builtin .append, args := #[qt 3, qt 4], argTypes := #[22, 22] }) 22,
 qsg nb 2 5 22]) (
 .ret))
@[go_sem] theorem rs53 : Go.Proofs.Try.f53.results.toList = [.tmp 2] := by kernel_rfl
theorem k53 (nb : Nat) : sk nb Go.Proofs.Try.f53.ntmps (Go.Proofs.Try.f53.body.getD .skip) = some (c53 nb) := by kernel_rfl
theorem w53 {a : List Arg} {r : RV} (h : W Q (c53 0) [] ⟨ρ0 (a.map fun a => a.m.lv), h0⟩ (retG Q Go.Proofs.Try.f53.results.toList (retF r))) (l : Nat.ble a.length Go.Proofs.Try.f53.ntmps = true := by kernel_rfl) : Fn Q 53 a r := fn_intro Go.Proofs.Try.func53 rfl (by kernel_rfl) mix (k53 0) (Nat.le_of_ble_eq_true l) h
noncomputable def c54 (nb : Nat) : SC :=
 .seq (
 .ops [sop nb 2 (.box 25 (qt 0)) 0,
 sop nb 4 (.assign (qi 0)) 3]) (
 .seq (
 .ops [sop nb 7 (.fieldAddr 25 (qt 2) 2) 0,
 qld nb 8 3 7,
 sop nb 9 (.binOp .mul 3 (qi 2) (qt 8) 3) 3,
 qsg nb 5 9 3]) (
 .seq (
 .seq (
 .ops [sop nb 6 (.assign (qi 0)) 3]) (
 .block 0 (
  .loop (
   .seq (
   .seq (
   .ops [qmv nb 10 6 3,
 qmv nb 11 1 22,
 qln nb 12 #[qt 11] #[22] 3,
 qbo nb 13 .lss 3 10 (qt 12) 3 4]) (
   .cond (qt 13) (
    .skip) (
    .exit 0))) (
   .seq (
   .block 1 (
    .seq (
    .ops [qmv nb 16 5 3,
 sop nb 17 (.fieldAddr 25 (qt 2) 0) 0,
 qld nb 18 22 17,
 qmv nb 19 1 22,
 qmv nb 20 6 3,
 qix nb 21 22 19 20 0,
 qld nb 22 3 21,
 qix nb 23 22 18 22 0,
 qld nb 24 3 23,
 qbo nb 25 .add 3 16 (qt 24) 3 3,
 qsg nb 5 25 3]) (
    .seq (
    .ops [qmv nb 26 6 3,
 qbo nb 27 .add 3 26 (qi 1) 3 3,
 qmv nb 28 1 22,
 qln nb 29 #[qt 28] #[22] 3,
 qbo nb 30 .lss 3 27 (qt 29) 3 4]) (
    .cond (qt 30) (
     .ops [qmv nb 31 5 3,
 qld nb 32 25 2,
 qmv nb 33 1 22,
 qmv nb 34 6 3,
 qcl nb 35 56 #[qt 32, qt 33, qt 34] #[25, 22, 3] 3,
 qbo nb 36 .add 3 31 (qt 35) 3 3,
 qsg nb 5 36 3]) (
     .skip))))) (
   .ops [qmv nb 14 6 3,
 qbo nb 15 .add 3 14 (qi 1) 3 3,
 qsg nb 6 15 3])))))) (
 .seq (
 .ops [qmv nb 37 5 3,
 qsg nb 4 37 3]) (
 .ret))))
noncomputable def c55 (nb : Nat) : SC :=
 .seq (
 .ops [sop nb 3 (.box 25 (qt 0)) 0,
 sop nb 6 (.assign (qi 0)) 3]) (
 .seq (
 .ops [sop nb 7 (.assign (qi 0)) 3]) (
 .seq (
 .seq (
 .ops [sop nb 8 (.assign (qi 0)) 3]) (
 .block 0 (
  .loop (
   .seq (
   .seq (
   .ops [qmv nb 10 8 3,
 qmv nb 11 2 22,
 qln nb 12 #[qt 11] #[22] 3,
 qbo nb 13 .lss 3 10 (qt 12) 3 4]) (
   .cond (qt 13) (
    .skip) (
    .exit 0))) (
   .seq (
   .block 1 (
    .seq (
    .ops [sop nb 9 (.assign (qi 0)) 3]) (
    .block 2 (
     .loop (
      .seq (
      .seq (
      .ops [qmv nb 16 9 3,
 qmv nb 17 2 22,
 qln nb 18 #[qt 17] #[22] 3,
 qbo nb 19 .lss 3 16 (qt 18) 3 4]) (
      .cond (qt 19) (
       .skip) (
       .exit 2))) (
      .seq (
      .block 3 (
       .opsD [qmv nb 22 7 3,
 qld nb 23 25 3,
 qmv nb 24 1 22,
 qmv nb 25 8 3,
 qmv nb 26 2 22,
 qmv nb 27 8 3,
 qix nb 28 22 26 27 0,
 qld nb 29 3 28,
 qcl nb 30 58 #[qt 23, qt 24, qt 25, qt 29] #[25, 22, 3, 3] 3,
 qld nb 31 25 3,
 qmv nb 32 1 22,
 qmv nb 33 9 3,
 qmv nb 34 2 22,
 qmv nb 35 9 3,
 qix nb 36 22 34 35 0,
 qld nb 37 3 36,
 qcl nb 38 58 #[qt 31, qt 32, qt 33, qt 37] #[25, 22, 3, 3] 3,
 qbo nb 39 .sub 3 30 (qt 38) 3 3,
 sop nb 40 (.call { callee := .builtin .max, args := #[qt 22, qt 39], argTypes := #[3, 3] }) 3,
 qsg nb 7 40 3] [(8, 9), (8, 14), (8, 15)])) (
      .ops [qmv nb 20 9 3,
 qbo nb 21 .add 3 20 (qi 1) 3 3,
 qsg nb 9 21 3]))))))) (
   .ops [qmv nb 14 8 3,
 qbo nb 15 .add 3 14 (qi 1) 3 3,
 qsg nb 8 15 3])))))) (
 .seq (
 .ops [qmv nb 41 7 3,
 qsg nb 6 41 3]) (
 .ret))))
noncomputable def c56 (nb : Nat) : SC :=
 .seq (
 .ops [sop nb 3 (.box 25 (qt 0)) 0,
 sop nb 6 (.assign (qi 0)) 3]) (
 .seq (
 .opsD [sop nb 7 (.fieldAddr 25 (qt 3) 3) 0,
 qld nb 8 3 7,
 qld nb 9 25 3,
 qmv nb 10 1 22,
 qmv nb 11 2 3,
 qcl nb 12 58 #[qt 9, qt 10, qt 11, qi 0] #[25, 22, 3, 3] 3,
 qbo nb 13 .sub 3 8 (qt 12) 3 3,
 sop nb 14 (.call { callee := .builtin .max, args := #[qi 0, qt 13], argTypes := #[3, 3] }) 3,
 qsg nb 6 14 3] [(1, 5)]) (
 .ret))
noncomputable def c57 (nb : Nat) : SC :=
 .seq (
 .ops [sop nb 4 (.assign (.const (.bool false))) 4]) (
 .seq (
 .seq (
 .ops [sop nb 5 (.assign (qi 0)) 3]) (
 .block 0 (
  .loop (
   .seq (
   .seq (
   .ops [qmv nb 6 5 3,
 qmv nb 7 0 22,
 qln nb 8 #[qt 7] #[22] 3,
 qbo nb 9 .lss 3 6 (qt 8) 3 4,
 qmv nb 10 9 4,
 gop nb 11 (.move (qt 5)) 3 10 true,
 gop nb 12 (.move (qt 1)) 22 10 true,
 gop nb 13 (.call { callee := .builtin .len, args := #[qt 12], argTypes := #[22] }) 3 10 true,
 gop nb 14 (.binOp .lss 3 (qt 11) (qt 13) 3) 4 10 true,
 sop nb 15 (.pick (qt 10) (qt 14) (.const (.bool false))) 4]) (
   .cond (qt 15) (
    .skip) (
    .exit 0))) (
   .seq (
   .block 1 (
    .seq (
    .ops [qmv nb 18 0 22,
 qmv nb 19 5 3,
 qix nb 20 22 18 19 0,
 qld nb 21 3 20,
 qmv nb 22 1 22,
 qmv nb 23 5 3,
 qix nb 24 22 22 23 0,
 qld nb 25 3 24,
 qbo nb 26 .neq 3 21 (qt 25) 3 4]) (
    .cond (qt 26) (
     .seq (
     .ops [qmv nb 27 0 22,
 qmv nb 28 5 3,
 qix nb 29 22 27 28 0,
 qld nb 30 3 29,
 qmv nb 31 1 22,
 qmv nb 32 5 3,
 qix nb 33 22 31 32 0,
 qld nb 34 3 33,
 qbo nb 35 .lss 3 30 (qt 34) 3 4,
 qsg nb 4 35 4]) (
     .ret)) (
     .skip)))) (
   .ops [qmv nb 16 5 3,
 qbo nb 17 .add 3 16 (qi 1) 3 3,
 qsg nb 5 17 3])))))) (
 .seq (
 .ops [sop nb 4 (.assign (.const (.bool false))) 4]) (
 .ret)))
noncomputable def c58 (nb : Nat) : SC :=
 .seq (
 .ops [sop nb 4 (.box 25 (qt 0)) 0,
 sop nb 8 (.assign (qi 0)) 3]) (
 .seq (
 .seq (
 .ops [sop nb 9 (.assign (qi 0)) 3]) (
 .block 0 (
  .loop (
   .seq (
   .seq (
   .ops [qmv nb 10 9 3,
 sop nb 11 (.fieldAddr 25 (qt 4) 1) 0,
 qld nb 12 23 11,
 qln nb 13 #[qt 12] #[23] 3,
 qbo nb 14 .lss 3 10 (qt 13) 3 4]) (
   .cond (qt 14) (
    .skip) (
    .exit 0))) (
   .seq (
   .block 1 (
    .seq (
    .ops [sop nb 17 (.fieldAddr 25 (qt 4) 1) 0,
 qld nb 18 23 17,
 qmv nb 19 9 3,
 qix nb 20 23 18 19 0,
 sop nb 21 (.fieldAddr 108 (qt 20) 0) 0,
 qld nb 22 3 21,
 qmv nb 23 1 22,
 qmv nb 24 2 3,
 qix nb 25 22 23 24 0,
 qld nb 26 3 25,
 qbo nb 27 .eql 3 22 (qt 26) 3 4,
 qmv nb 28 27 4,
 gop nb 29 (.fieldAddr 25 (qt 4) 1) 0 28 true,
 gop nb 30 (.load 23 (qt 29)) 23 28 true,
 gop nb 31 (.move (qt 9)) 3 28 true,
 gop nb 32 (.indexAddr 23 (qt 30) (qt 31)) 0 28 true,
 gop nb 33 (.fieldAddr 108 (qt 32) 1) 0 28 true,
 gop nb 34 (.load 3 (qt 33)) 3 28 true,
 gop nb 35 (.move (qt 1)) 22 28 true,
 gop nb 36 (.move (qt 2)) 3 28 true,
 gop nb 37 (.binOp .add 3 (qt 36) (qi 1) 3) 3 28 true,
 gop nb 38 (.indexAddr 22 (qt 35) (qt 37)) 0 28 true,
 gop nb 39 (.load 3 (qt 38)) 3 28 true,
 gop nb 40 (.binOp .eql 3 (qt 34) (qt 39) 3) 4 28 true,
 sop nb 41 (.pick (qt 28) (qt 40) (.const (.bool false))) 4]) (
    .cond (qt 41) (
     .seq (
     .ops [qmv nb 42 3 3,
 sop nb 43 (.fieldAddr 25 (qt 4) 1) 0,
 qld nb 44 23 43,
 qmv nb 45 9 3,
 qix nb 46 23 44 45 0,
 sop nb 47 (.fieldAddr 108 (qt 46) 2) 0,
 qld nb 48 3 47,
 qbo nb 49 .add 3 42 (qt 48) 3 3,
 qsg nb 8 49 3]) (
     .ret)) (
     .skip)))) (
   .ops [qmv nb 15 9 3,
 qbo nb 16 .add 3 15 (qi 1) 3 3,
 qsg nb 9 16 3])))))) (
 .seq (
 .ops [qmv nb 50 3 3,
 qsg nb 8 50 3]) (
 .ret)))
noncomputable def c61 (nb : Nat) : SC :=
 .seq (
 .ops [sop nb 4 (.assign (.const (.bool false))) 4]) (
 .seq (
 .seq (
 .ops [sop nb 5 (.assign (qi 0)) 3]) (
 .block 0 (
  .loop (
   .seq (
   .seq (
   .ops [qmv nb 6 5 3,
 qmv nb 7 0 22,
 qln nb 8 #[qt 7] #[22] 3,
 qbo nb 9 .lss 3 6 (qt 8) 3 4]) (
   .cond (qt 9) (
    .skip) (
    .exit 0))) (
   .seq (
   .block 1 (
    .seq (
    .ops [qmv nb 12 0 22,
 qmv nb 13 5 3,
 qix nb 14 22 12 13 0,
 qld nb 15 3 14,
 qmv nb 16 1 3,
 qbo nb 17 .eql 3 15 (qt 16) 3 4]) (
    .cond (qt 17) (
     .seq (
     .ops [sop nb 4 (.assign (.const (.bool true))) 4]) (
     .ret)) (
     .skip)))) (
   .ops [qmv nb 10 5 3,
 qbo nb 11 .add 3 10 (qi 1) 3 3,
 qsg nb 5 11 3])))))) (
 .seq (
 .ops [sop nb 4 (.assign (.const (.bool false))) 4]) (
 .ret)))
@[go_sem] theorem rs61 : Go.Proofs.Try.f61.results.toList = [.tmp 4] := by kernel_rfl
theorem k61 (nb : Nat) : sk nb Go.Proofs.Try.f61.ntmps (Go.Proofs.Try.f61.body.getD .skip) = some (c61 nb) := by kernel_rfl
theorem w61 {a : List Arg} {r : RV} (h : W Q (c61 0) [] ⟨ρ0 (a.map fun a => a.m.lv), h0⟩ (retG Q Go.Proofs.Try.f61.results.toList (retF r))) (l : Nat.ble a.length Go.Proofs.Try.f61.ntmps = true := by kernel_rfl) : Fn Q 61 a r := fn_intro Go.Proofs.Try.func61 rfl (by kernel_rfl) mix (k61 0) (Nat.le_of_ble_eq_true l) h
noncomputable def c64 (nb : Nat) : SC :=
 .seq (
 .ops [sop nb 2 (.assign (.const (.slice none 0 0))) 56]) (
 .seq (
 .ops [sop nb 5 (.buildSlice 56 0 #[]) 56,
 qsg nb 3 5 56]) (
 .seq (
 .seq (
 .ops [sop nb 4 (.assign (qi 0)) 3]) (
 .block 0 (
  .loop (
   .seq (
   .seq (
   .ops [qmv nb 6 4 3,
 qmv nb 7 0 95,
 qln nb 8 #[qt 7] #[95] 3,
 qbo nb 9 .lss 3 6 (qt 8) 3 4,
 qmv nb 10 9 4,
 gop nb 11 (.move (qt 4)) 3 10 true,
 gop nb 12 (.binOp .lss 3 (qt 11) (qi 5) 3) 4 10 true,
 sop nb 13 (.pick (qt 10) (qt 12) (.const (.bool false))) 4]) (
   .cond (qt 13) (
    .skip) (
    .exit 0))) (
   .seq (
   .block 1 (
    .ops [qmv nb 16 3 56,
 qmv nb 17 0 95,
 qmv nb 18 4 3,
 qix nb 19 95 17 18 0,
 qld nb 20 82 19,
 qcl nb 21 51 #[qt 20] #[82] 22,
 sop nb 22 (.buildSlice 56 1 #[(0, qt 21)]) 56,
 sop nb 23 (.call { callee := .builtin .append, args := #[qt 16, qt 22], argTypes := #[56, 56] }) 56,
 qsg nb 3 23 56])) (
   .ops [qmv nb 14 4 3,
 qbo nb 15 .add 3 14 (qi 1) 3 3,
 qsg nb 4 15 3])))))) (
 .seq (
 .ops [qmv nb 24 3 56,
 qsg nb 2 24 56]) (
 .ret))))
noncomputable def c65 (nb : Nat) : SC :=
 .seq (
 .ops [sop nb 2 (.assign (.const (.slice none 0 0))) 56]) (
 .seq (
 .ops [sop nb 5 (.buildSlice 56 0 #[]) 56,
 qsg nb 3 5 56]) (
 .seq (
 .seq (
 .ops [sop nb 4 (.assign (qi 0)) 3]) (
 .block 0 (
  .loop (
   .seq (
   .seq (
   .ops [qmv nb 6 4 3,
 qmv nb 7 0 56,
 qln nb 8 #[qt 7] #[56] 3,
 qbo nb 9 .lss 3 6 (qt 8) 3 4]) (
   .cond (qt 9) (
    .skip) (
    .exit 0))) (
   .seq (
   .block 1 (
    .ops [qmv nb 12 3 56,
 qmv nb 13 0 56,
 qmv nb 14 4 3,
 qix nb 15 56 13 14 0,
 qld nb 16 22 15,
 qcl nb 17 53 #[qt 16] #[22] 22,
 sop nb 18 (.buildSlice 56 1 #[(0, qt 17)]) 56,
 sop nb 19 (.call { callee := .builtin .append, args := #[qt 12, qt 18], argTypes := #[56, 56] }) 56,
 qsg nb 3 19 56])) (
   .ops [qmv nb 10 4 3,
 qbo nb 11 .add 3 10 (qi 1) 3 3,
 qsg nb 4 11 3])))))) (
 .seq (
 .ops [qmv nb 20 3 56,
 qsg nb 2 20 56]) (
 .ret))))
noncomputable def c66 (nb : Nat) : SC :=
 .seq (
 .ops [sop nb 4 (.box 25 (qt 0)) 0,
 sop nb 8 (.assign (qi 0)) 3]) (
 .seq (
 .ops [sop nb 9 (.assign (qi (-1))) 3,
 sop nb 10 (.assign (qi 0)) 3]) (
 .seq (
 .seq (
 .ops [sop nb 11 (.assign (qi 0)) 3]) (
 .block 0 (
  .loop (
   .seq (
   .seq (
   .ops [qmv nb 12 11 3,
 qmv nb 13 1 56,
 qln nb 14 #[qt 13] #[56] 3,
 qbo nb 15 .lss 3 12 (qt 14) 3 4]) (
   .cond (qt 15) (
    .skip) (
    .exit 0))) (
   .seq (
   .block 1 (
    .seq (
    .seq (
    .ops [qmv nb 18 2 22,
 qmv nb 19 11 3,
 qcl nb 20 61 #[qt 18, qt 19] #[22, 3] 4]) (
    .cond (qt 20) (
     .ops [sop nb 21 (.fieldAddr 25 (qt 4) 2) 0,
 qld nb 22 3 21,
 sop nb 23 (.binOp .mul 3 (qi 2) (qt 22) 3) 3,
 qsg nb 10 23 3]) (
     .ops [qmv nb 24 10 3,
 sop nb 25 (.fieldAddr 25 (qt 4) 4) 0,
 qld nb 26 3 25,
 qbo nb 27 .add 3 24 (qt 26) 3 3,
 qsg nb 10 27 3]))) (
    .seq (
    .opsD [qmv nb 28 10 3,
 qld nb 29 25 4,
 qmv nb 30 1 56,
 qmv nb 31 11 3,
 qix nb 32 56 30 31 0,
 qld nb 33 22 32,
 qcl nb 34 54 #[qt 29, qt 33] #[25, 22] 3,
 sop nb 35 (.fieldAddr 25 (qt 4) 2) 0,
 qld nb 36 3 35,
 sop nb 37 (.binOp .mul 3 (qi 2) (qt 36) 3) 3,
 qbo nb 38 .sub 3 34 (qt 37) 3 3,
 qbo nb 39 .add 3 28 (qt 38) 3 3,
 qsg nb 10 39 3] [(6, 8)]) (
    .seq (
    .seq (
    .ops [qmv nb 40 10 3,
 qmv nb 41 3 3,
 qbo nb 42 .gtr 3 40 (qt 41) 3 4]) (
    .cond (qt 42) (
     .seq (
     .ops [sop nb 8 (.assign (qi (-1))) 3]) (
     .ret)) (
     .skip))) (
    .seq (
    .ops [qmv nb 43 11 3,
 qbo nb 44 .add 3 43 (qi 1) 3 3,
 qmv nb 45 1 56,
 qln nb 46 #[qt 45] #[56] 3,
 qbo nb 47 .eql 3 44 (qt 46) 3 4,
 qmv nb 48 47 4,
 gop nb 49 (.move (qt 2)) 22 48 false,
 gop nb 50 (.move (qt 11)) 3 48 false,
 gop nb 51 (.binOp .add 3 (qt 50) (qi 1) 3) 3 48 false,
 gop nb 52 (.call { callee := .value (.func 61), args := #[qt 49, qt 51], argTypes := #[22, 3] }) 4 48 false,
 sop nb 53 (.pick (qt 48) (.const (.bool true)) (qt 52)) 4]) (
    .cond (qt 53) (
     .ops [qmv nb 54 9 3,
 qmv nb 55 3 3,
 qmv nb 56 10 3,
 qbo nb 57 .sub 3 55 (qt 56) 3 3,
 sop nb 58 (.call { callee := .builtin .max, args := #[qt 54, qt 57], argTypes := #[3, 3] }) 3,
 qsg nb 9 58 3]) (
     .skip))))))) (
   .ops [qmv nb 16 11 3,
 qbo nb 17 .add 3 16 (qi 1) 3 3,
 qsg nb 11 17 3])))))) (
 .seq (
 .ops [qmv nb 59 9 3,
 qsg nb 8 59 3]) (
 .ret))))
end S04

