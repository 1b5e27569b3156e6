/- A part of the proof: C07h0, C07x0, C07x1. -/
import Derived.Test.YtmanbdacloeioaaF07
set_option linter.unusedVariables false
set_option linter.unusedSimpArgs false
set_option maxRecDepth 20000
namespace S07
open Go Abs
noncomputable def c44 (nb : Nat) : SC :=
 .seq (
 .ops [sop nb 3 (.box 24 (qt 0)) 0,
 sop nb 6 (.assign (qi 0)) 76,
 sop nb 7 (.assign (qi 0)) 3,
 sop nb 8 (.assign (qi 0)) 3,
 sop nb 9 (.assign (qi 0)) 3]) (
 .seq (
 .ops [qmv nb 11 1 3,
 qmv nb 12 1 3,
 qsg nb 7 11 3,
 qsg nb 8 12 3]) (
 .seq (
 .seq (
 .ops [qld nb 13 24 3,
 qmv nb 14 1 3,
 qcl nb 15 77 #[qt 13, qt 14] #[24, 3] 26,
 qsg nb 10 15 26]) (
 .seq (
 .ops [qmv nb 16 2 5,
 sop nb 17 (.binOp .rem 5 (qt 16) (.const (.int .u8 4)) 5) 5,
 sop nb 18 (.binOp .geq 5 (qt 17) (.const (.int .u8 2)) 5) 4,
 qmv nb 19 18 4,
 gop nb 20 (.move (qt 10)) 26 19 true,
 gop nb 21 (.call { callee := .builtin .len, args := #[qt 20], argTypes := #[26] }) 3 19 true,
 gop nb 22 (.binOp .gtr 3 (qt 21) (qi 0) 3) 4 19 true,
 sop nb 23 (.pick (qt 19) (qt 22) (.const (.bool false))) 4]) (
 .cond (qt 23) (
  .seq (
  .opsD [qmv nb 24 10 26,
 qmv nb 25 2 5,
 sop nb 26 (.convert 5 3 (qt 25)) 3,
 qbo nb 27 .quo 3 26 (qi 4) 3 3,
 qmv nb 28 10 26,
 qln nb 29 #[qt 28] #[26] 3,
 qbo nb 30 .rem 3 27 (qt 29) 3 3,
 qix nb 31 26 24 30 0,
 qld nb 32 3 31,
 sop nb 6 (.assign (qi 2)) 76,
 qsg nb 7 32 3,
 sop nb 9 (.assign (qi 1)) 3] [(5, 9), (7, 9), (8, 9)]) (
  .ops [qmv nb 33 7 3,
 qsg nb 8 33 3])) (
  .skip)))) (
 .seq (
 .seq (
 .ops [qmv nb 34 2 5,
 sop nb 35 (.binOp .rem 5 (qt 34) (.const (.int .u8 2)) 5) 5,
 sop nb 36 (.binOp .eql 5 (qt 35) (.const (.int .u8 1)) 5) 4]) (
 .cond (qt 36) (
  .ops [qmv nb 37 6 76,
 qbo nb 38 .add 76 37 (qi 1) 76 76,
 qld nb 39 24 3,
 qmv nb 40 7 3,
 qcl nb 41 50 #[qt 39, qt 40] #[24, 3] 3,
 qmv nb 42 9 3,
 qbo nb 43 .add 3 42 (qi 1) 3 3,
 qsg nb 6 38 76,
 qsg nb 8 41 3,
 qsg nb 9 43 3]) (
  .skip))) (
 .seq (
 .ops [qmv nb 44 6 76,
 qmv nb 45 7 3,
 qmv nb 46 8 3,
 qmv nb 47 9 3,
 qsg nb 6 44 76,
 qsg nb 7 45 3,
 qsg nb 8 46 3,
 qsg nb 9 47 3]) (
 .ret)))))
noncomputable def c51 (nb : Nat) : SC :=
 .seq (
 .ops [sop nb 2 (.assign (.const (.slice none 0 0))) 25]) (
 .seq (
 .ops [sop nb 5 (.buildSlice 25 0 #[]) 25,
 qsg nb 3 5 25]) (
 .seq (
 .seq (
 .ops [sop nb 4 (.assign (qi 0)) 3]) (
 .block 0 (
  .loop (
   .seq (
   .seq (
   .ops [qmv nb 6 4 3,
 qmv nb 7 0 25,
 qln nb 8 #[qt 7] #[25] 3,
 qbo nb 9 .lss 3 6 (qt 8) 3 4]) (
   .cond (qt 9) (
    .skip) (
    .exit 0))) (
   .seq (
   .block 1 (
    .ops [qmv nb 12 3 25,
 qmv nb 13 0 25,
 qmv nb 14 4 3,
 qix nb 15 25 13 14 0,
 qld nb 16 26 15,
 qcl nb 17 17 #[qt 16] #[26] 26,
 sop nb 18 (.buildSlice 25 1 #[(0, qt 17)]) 25,
 sop nb 19 (.call { callee := .builtin .append, args := #[qt 12, qt 18], argTypes := #[25, 25] }) 25,
 qsg nb 3 19 25])) (
   .ops [qmv nb 10 4 3,
 qbo nb 11 .add 3 10 (qi 1) 3 3,
 qsg nb 4 11 3])))))) (
 .seq (
 .ops [qmv nb 20 3 25,
 qsg nb 2 20 25]) (
 .ret))))
noncomputable def c52 (nb : Nat) : SC :=
 .seq (
 .ops [sop nb 6 (.box 24 (qt 0)) 0,
 sop nb 12 (.assign (.const (.bool false))) 4]) (
 .seq (
 .ops [sop nb 13 (.assign (qi 0)) 3]) (
 .seq (
 .seq (
 .ops [sop nb 14 (.assign (qi 0)) 3]) (
 .block 0 (
  .loop (
   .seq (
   .seq (
   .ops [qmv nb 21 14 3,
 qmv nb 22 1 26,
 qln nb 23 #[qt 22] #[26] 3,
 qbo nb 24 .lss 3 21 (qt 23) 3 4]) (
   .cond (qt 24) (
    .skip) (
    .exit 0))) (
   .seq (
   .block 1 (
    .seq (
    .ops [sop nb 15 (.assign (qi 9)) 3]) (
    .seq (
    .seq (
    .ops [sop nb 16 (.assign (qi 0)) 3]) (
    .block 2 (
     .loop (
      .seq (
      .seq (
      .ops [qmv nb 27 16 3,
 qbo nb 28 .lss 3 27 (qi 64) 3 4]) (
      .cond (qt 28) (
       .skip) (
       .exit 2))) (
      .seq (
      .block 3 (
       .seq (
       .ops [qld nb 32 24 6,
 qmv nb 33 1 26,
 qmv nb 34 14 3,
 qix nb 35 26 33 34 0,
 qld nb 36 3 35,
 qmv nb 37 16 3,
 sop nb 38 (.convert 3 5 (qt 37)) 5,
 qcl nb 39 44 #[qt 32, qt 36, qt 38] #[24, 3, 5] 77,
 qmv nb 31 39 77,
 qex nb 40 31 0 76,
 qex nb 41 31 1 3,
 qex nb 42 31 2 3,
 qex nb 43 31 3 3,
 qsg nb 17 40 76,
 qsg nb 18 41 3,
 qsg nb 19 42 3,
 qsg nb 20 43 3]) (
       .seq (
       .ops [qmv nb 44 19 3,
 qmv nb 45 2 26,
 qmv nb 46 14 3,
 qix nb 47 26 45 46 0,
 qld nb 48 3 47,
 qbo nb 49 .eql 3 44 (qt 48) 3 4,
 qmv nb 50 49 4,
 gop nb 51 (.move (qt 14)) 3 50 true,
 gop nb 52 (.move (qt 4)) 3 50 true,
 gop nb 53 (.binOp .neq 3 (qt 51) (qt 52) 3) 4 50 true,
 gop nb 54 (.move (qt 53)) 4 50 true,
 gop nb 55 (.move (qt 18)) 3 54 false,
 gop nb 56 (.move (qt 5)) 3 54 false,
 gop nb 57 (.binOp .eql 3 (qt 55) (qt 56) 3) 4 54 false,
 gop nb 58 (.pick (qt 54) (.const (.bool true)) (qt 57)) 4 50 true,
 sop nb 59 (.pick (qt 50) (qt 58) (.const (.bool false))) 4]) (
       .cond (qt 59) (
        .ops [qmv nb 60 15 3,
 qmv nb 61 20 3,
 sop nb 62 (.call { callee := .builtin .min, args := #[qt 60, qt 61], argTypes := #[3, 3] }) 3,
 qsg nb 15 62 3]) (
        .skip))))) (
      .ops [qmv nb 29 16 3,
 qbo nb 30 .add 3 29 (qi 1) 3 3,
 qsg nb 16 30 3])))))) (
    .ops [qmv nb 63 13 3,
 qmv nb 64 15 3,
 qbo nb 65 .add 3 63 (qt 64) 3 3,
 qsg nb 13 65 3])))) (
   .ops [qmv nb 25 14 3,
 qbo nb 26 .add 3 25 (qi 1) 3 3,
 qsg nb 14 26 3])))))) (
 .seq (
 .ops [qmv nb 66 13 3,
 qmv nb 67 3 3,
 qbo nb 68 .leq 3 66 (qt 67) 3 4,
 qsg nb 12 68 4]) (
 .ret))))
noncomputable def c77 (nb : Nat) : SC :=
 .seq (
 .ops [sop nb 2 (.box 24 (qt 0)) 0,
 sop nb 4 (.assign (.const (.slice none 0 0))) 26]) (
 .seq (
 .ops [sop nb 8 (.buildSlice 26 0 #[]) 26,
 qsg nb 5 8 26]) (
 .seq (
 .seq (
 .ops [sop nb 6 (.assign (qi 0)) 3]) (
 .block 0 (
  .loop (
   .seq (
   .seq (
   .ops [qmv nb 9 6 3,
 sop nb 10 (.fieldAddr 24 (qt 2) 2) 0,
 qld nb 11 22 10,
 qln nb 12 #[qt 11] #[22] 3,
 qbo nb 13 .lss 3 9 (qt 12) 3 4]) (
   .cond (qt 13) (
    .skip) (
    .exit 0))) (
   .seq (
   .block 1 (
    .seq (
    .ops [sop nb 16 (.fieldAddr 24 (qt 2) 2) 0,
 qld nb 17 22 16,
 qmv nb 18 6 3,
 qix nb 19 22 17 18 0,
 qld nb 20 115 19,
 sop nb 7 (.alloc 115) 0,
 nop (.store 115 (qt 7) (qt 20)) 0]) (
    .seq (
    .ops [qmv nb 21 1 3]) (
    .block 2 (
     .seq (
     .ops [sop nb 23 (.fieldAddr 115 (qt 7) 0) 0,
 qld nb 24 3 23,
 qbo nb 25 .eql 3 21 (qt 24) 3 4,
 qsg nb 22 25 4]) (
     .cond (qt 22) (
      .ops [qmv nb 26 5 26,
 sop nb 27 (.fieldAddr 115 (qt 7) 1) 0,
 qld nb 28 3 27,
 sop nb 29 (.buildSlice 26 1 #[(0, qt 28)]) 26,
 sop nb 30 (.call { callee := .builtin .append, args := #[qt 26, qt 29], argTypes := #[26, 26] }) 26,
 qsg nb 5 30 26]) (
      .seq (
      .ops [sop nb 32 (.fieldAddr 115 (qt 7) 1) 0,
 qld nb 33 3 32,
 qbo nb 34 .eql 3 21 (qt 33) 3 4,
 qsg nb 31 34 4]) (
      .cond (qt 31) (
       .ops [qmv nb 35 5 26,
 sop nb 36 (.fieldAddr 115 (qt 7) 0) 0,
 qld nb 37 3 36,
 sop nb 38 (.buildSlice 26 1 #[(0, qt 37)]) 26,
 sop nb 39 (.call { callee := .builtin .append, args := #[qt 35, qt 38], argTypes := #[26, 26] }) 26,
 qsg nb 5 39 26]) (
       .skip))))))))) (
   .ops [qmv nb 14 6 3,
 qbo nb 15 .add 3 14 (qi 1) 3 3,
 qsg nb 6 15 3])))))) (
 .seq (
 .ops [qmv nb 40 5 26,
 qsg nb 4 40 26]) (
 .ret))))
end S07

namespace S07
open Go Abs
noncomputable def c14 (nb : Nat) : SC :=
 .seq (
 .ops [sop nb 0 (.assign (.const (.bool false))) 4]) (
 .seq (
 .ops [sop nb 26 (.buildSlice 26 3 #[(0, qi 1), (1, qi 3), (2, qi 4)]) 26,
 sop nb 27 (.buildSlice 26 5 #[(0, qi 1), (1, qi 0), (2, qi 1), (3, qi 1), (4, qi 1)]) 26,
 qsg nb 1 26 26,
 qsg nb 2 27 26]) (
 .seq (
 .opsD [qcl nb 29 57 #[] #[] 24,
 qcl nb 30 58 #[] #[] 25,
 sop nb 31 (.indexAddr 25 (qt 30) (qi 0)) 0,
 qld nb 32 26 31,
 qmv nb 33 1 26,
 qcl nb 34 17 #[qt 33] #[26] 26,
 qcl nb 35 45 #[qt 29, qt 32, qt 34] #[24, 26, 26] 80,
 qmv nb 28 35 80,
 qex nb 36 28 0 79,
 qex nb 37 28 1 34,
 qsg nb 3 36 79,
 qsg nb 4 37 34] [(2, 5), (3, 5)]) (
 .seq (
 .opsD [qcl nb 39 57 #[] #[] 24,
 qcl nb 40 58 #[] #[] 25,
 sop nb 41 (.indexAddr 25 (qt 40) (qi 0)) 0,
 qld nb 42 26 41,
 qmv nb 43 1 26,
 qcl nb 44 17 #[qt 43] #[26] 26,
 qcl nb 45 47 #[qt 39, qt 42, qt 44] #[24, 26, 26] 83,
 qmv nb 38 45 83,
 qex nb 46 38 0 82,
 qex nb 47 38 1 3,
 qex nb 48 38 2 34,
 qsg nb 5 46 82,
 qsg nb 6 47 3,
 qsg nb 7 48 34] [(2, 5), (3, 5)]) (
 .seq (
 .ops [qcl nb 50 57 #[] #[] 24,
 qcl nb 51 58 #[] #[] 25,
 qmv nb 52 1 26,
 qcl nb 53 17 #[qt 52] #[26] 26,
 qcl nb 54 18 #[qt 50, qt 51, qt 53, qi 1] #[24, 25, 26, 3] 35,
 qmv nb 49 54 35,
 qex nb 55 49 0 26,
 qex nb 56 49 1 34,
 qsg nb 8 55 26,
 qsg nb 9 56 34]) (
 .seq (
 .ops [qcl nb 58 57 #[] #[] 24,
 qcl nb 59 58 #[] #[] 25,
 qmv nb 60 1 26,
 qcl nb 61 17 #[qt 60] #[26] 26,
 qcl nb 62 18 #[qt 58, qt 59, qt 61, qi 2] #[24, 25, 26, 3] 35,
 qmv nb 57 62 35,
 qex nb 63 57 0 26,
 qex nb 64 57 1 34,
 qsg nb 10 63 26,
 qsg nb 11 64 34]) (
 .seq (
 .ops [qcl nb 66 57 #[] #[] 24,
 qcl nb 67 58 #[] #[] 25,
 qmv nb 68 1 26,
 qcl nb 69 17 #[qt 68] #[26] 26,
 qcl nb 70 19 #[qt 66, qt 67, qt 69, qi 2] #[24, 25, 26, 3] 37,
 qmv nb 65 70 37,
 qex nb 71 65 0 3,
 qex nb 72 65 1 3,
 qex nb 73 65 2 34,
 qsg nb 12 71 3,
 qsg nb 13 72 3,
 qsg nb 14 73 34]) (
 .seq (
 .ops [qcl nb 75 57 #[] #[] 24,
 qmv nb 76 2 26,
 qcl nb 77 17 #[qt 76] #[26] 26,
 qmv nb 78 1 26,
 qcl nb 79 17 #[qt 78] #[26] 26,
 qcl nb 80 29 #[qt 75, qt 77, qt 79] #[24, 26, 26] 35,
 qmv nb 74 80 35,
 qex nb 81 74 0 26,
 qex nb 82 74 1 34,
 qsg nb 15 81 26,
 qsg nb 16 82 34]) (
 .seq (
 .ops [qcl nb 84 57 #[] #[] 24,
 qmv nb 85 2 26,
 qcl nb 86 17 #[qt 85] #[26] 26,
 sop nb 87 (.buildSlice 26 2 #[(0, qi 0), (1, qi 1)]) 26,
 qcl nb 88 30 #[qt 84, qt 86, qt 87] #[24, 26, 26] 35,
 qmv nb 83 88 35,
 qex nb 89 83 0 26,
 qex nb 90 83 1 34,
 qsg nb 17 89 26,
 qsg nb 18 90 34]) (
 .seq (
 .ops [qcl nb 92 57 #[] #[] 24,
 qmv nb 93 2 26,
 qcl nb 94 17 #[qt 93] #[26] 26,
 sop nb 95 (.buildSlice 26 2 #[(0, qi 0), (1, qi 1)]) 26,
 sop nb 96 (.buildSlice 26 3 #[(0, qi 1), (1, qi 3), (2, qi 4)]) 26,
 sop nb 97 (.buildSlice 25 2 #[(0, qt 95), (1, qt 96)]) 25,
 qcl nb 98 35 #[qt 92, qt 94, qt 97] #[24, 26, 25] 35,
 qmv nb 91 98 35,
 qex nb 99 91 0 26,
 qex nb 100 91 1 34,
 qsg nb 19 99 26,
 qsg nb 20 100 34]) (
 .seq (
 .ops [qcl nb 102 57 #[] #[] 24,
 qcl nb 103 59 #[] #[] 25,
 sop nb 104 (.buildSlice 26 5 #[(0, qi 1), (1, qi 1), (2, qi 1), (3, qi 1), (4, qi 2)]) 26,
 qcl nb 105 37 #[qt 102, qt 103, qt 104, qi 2] #[24, 25, 26, 3] 60,
 qmv nb 101 105 60,
 qex nb 106 101 0 25,
 qex nb 107 101 1 34,
 qsg nb 21 106 25,
 qsg nb 22 107 34]) (
 .seq (
 .ops [qcl nb 109 57 #[] #[] 24,
 qcl nb 110 59 #[] #[] 25,
 sop nb 111 (.buildSlice 26 5 #[(0, qi 1), (1, qi 1), (2, qi 1), (3, qi 1), (4, qi 2)]) 26,
 qcl nb 112 38 #[qt 109, qt 110, qt 111, qi 2] #[24, 25, 26, 3] 62,
 qmv nb 108 112 62,
 qex nb 113 108 0 26,
 qex nb 114 108 1 26,
 qex nb 115 108 2 34,
 qsg nb 23 113 26,
 qsg nb 24 114 26,
 qsg nb 25 115 34]) (
 .seq (
 .seq (
 .ops [qmv nb 116 4 34,
 qbo nb 117 .neq 34 116 (qi 0) 34 4,
 qmv nb 118 117 4,
 gop nb 119 (.move (qt 7)) 34 118 false,
 gop nb 120 (.binOp .neq 34 (qt 119) (qi 0) 34) 4 118 false,
 sop nb 121 (.pick (qt 118) (.const (.bool true)) (qt 120)) 4,
 qmv nb 122 121 4,
 gop nb 123 (.move (qt 9)) 34 122 false,
 gop nb 124 (.binOp .neq 34 (qt 123) (qi 0) 34) 4 122 false,
 sop nb 125 (.pick (qt 122) (.const (.bool true)) (qt 124)) 4,
 qmv nb 126 125 4,
 gop nb 127 (.move (qt 11)) 34 126 false,
 gop nb 128 (.binOp .neq 34 (qt 127) (qi 0) 34) 4 126 false,
 sop nb 129 (.pick (qt 126) (.const (.bool true)) (qt 128)) 4,
 qmv nb 130 129 4,
 gop nb 131 (.move (qt 14)) 34 130 false,
 gop nb 132 (.binOp .neq 34 (qt 131) (qi 0) 34) 4 130 false,
 sop nb 133 (.pick (qt 130) (.const (.bool true)) (qt 132)) 4,
 qmv nb 134 133 4,
 gop nb 135 (.move (qt 16)) 34 134 false,
 gop nb 136 (.binOp .neq 34 (qt 135) (qi 0) 34) 4 134 false,
 sop nb 137 (.pick (qt 134) (.const (.bool true)) (qt 136)) 4,
 qmv nb 138 137 4,
 gop nb 139 (.move (qt 18)) 34 138 false,
 gop nb 140 (.binOp .neq 34 (qt 139) (qi 0) 34) 4 138 false,
 sop nb 141 (.pick (qt 138) (.const (.bool true)) (qt 140)) 4,
 qmv nb 142 141 4,
 gop nb 143 (.move (qt 20)) 34 142 false,
 gop nb 144 (.binOp .neq 34 (qt 143) (qi 0) 34) 4 142 false,
 sop nb 145 (.pick (qt 142) (.const (.bool true)) (qt 144)) 4,
 qmv nb 146 145 4,
 gop nb 147 (.move (qt 22)) 34 146 false,
 gop nb 148 (.binOp .neq 34 (qt 147) (qi 0) 34) 4 146 false,
 sop nb 149 (.pick (qt 146) (.const (.bool true)) (qt 148)) 4,
 qmv nb 150 149 4,
 gop nb 151 (.move (qt 25)) 34 150 false,
 gop nb 152 (.binOp .neq 34 (qt 151) (qi 0) 34) 4 150 false,
 sop nb 153 (.pick (qt 150) (.const (.bool true)) (qt 152)) 4,
 qmv nb 154 153 4,
 gop nb 155 (.move (qt 3)) 79 154 false,
 gop nb 156 (.call { callee := .builtin .len, args := #[qt 155], argTypes := #[79] }) 3 154 false,
 gop nb 157 (.binOp .neq 3 (qt 156) (qi 3) 3) 4 154 false,
 sop nb 158 (.pick (qt 154) (.const (.bool true)) (qt 157)) 4]) (
 .cond (qt 158) (
  .seq (
  .ops [sop nb 0 (.assign (.const (.bool false))) 4]) (
  .ret)) (
  .skip))) (
 .seq (
 .seq (
 .ops [qmv nb 159 3 79,
 sop nb 160 (.indexAddr 79 (qt 159) (qi 0)) 0,
 qld nb 161 82 160,
 qcl nb 162 48 #[qt 161] #[82] 26,
 sop nb 163 (.buildSlice 26 1 #[(0, qi 1)]) 26,
 qcl nb 164 22 #[qt 162, qt 163] #[26, 26] 4,
 sop nb 165 (.unOp .not 4 (qt 164)) 4,
 qmv nb 166 165 4,
 gop nb 167 (.move (qt 3)) 79 166 false,
 gop nb 168 (.indexAddr 79 (qt 167) (qi 1)) 0 166 false,
 gop nb 169 (.load 82 (qt 168)) 82 166 false,
 gop nb 170 (.call { callee := .value (.func 48), args := #[qt 169], argTypes := #[82] }) 26 166 false,
 gop nb 171 (.buildSlice 26 2 #[(0, qi 0), (1, qi 1)]) 26 166 false,
 gop nb 172 (.call { callee := .value (.func 22), args := #[qt 170, qt 171], argTypes := #[26, 26] }) 4 166 false,
 gop nb 173 (.unOp .not 4 (qt 172)) 4 166 false,
 sop nb 174 (.pick (qt 166) (.const (.bool true)) (qt 173)) 4,
 qmv nb 175 174 4,
 gop nb 176 (.move (qt 3)) 79 175 false,
 gop nb 177 (.indexAddr 79 (qt 176) (qi 2)) 0 175 false,
 gop nb 178 (.load 82 (qt 177)) 82 175 false,
 gop nb 179 (.call { callee := .value (.func 48), args := #[qt 178], argTypes := #[82] }) 26 175 false,
 gop nb 180 (.buildSlice 26 1 #[(0, qi 0)]) 26 175 false,
 gop nb 181 (.call { callee := .value (.func 22), args := #[qt 179, qt 180], argTypes := #[26, 26] }) 4 175 false,
 gop nb 182 (.unOp .not 4 (qt 181)) 4 175 false,
 sop nb 183 (.pick (qt 175) (.const (.bool true)) (qt 182)) 4,
 qmv nb 184 183 4,
 gop nb 185 (.move (qt 5)) 82 184 false,
 gop nb 186 (.call { callee := .value (.func 48), args := #[qt 185], argTypes := #[82] }) 26 184 false,
 gop nb 187 (.buildSlice 26 3 #[(0, qi 1), (1, qi 0), (2, qi 0)]) 26 184 false,
 gop nb 188 (.call { callee := .value (.func 22), args := #[qt 186, qt 187], argTypes := #[26, 26] }) 4 184 false,
 gop nb 189 (.unOp .not 4 (qt 188)) 4 184 false,
 sop nb 190 (.pick (qt 184) (.const (.bool true)) (qt 189)) 4,
 qmv nb 191 190 4,
 gop nb 192 (.move (qt 6)) 3 191 false,
 gop nb 193 (.binOp .neq 3 (qt 192) (qi 1) 3) 4 191 false,
 sop nb 194 (.pick (qt 191) (.const (.bool true)) (qt 193)) 4,
 qmv nb 195 194 4,
 gop nb 196 (.move (qt 8)) 26 195 false,
 gop nb 197 (.buildSlice 26 2 #[(0, qi 0), (1, qi 1)]) 26 195 false,
 gop nb 198 (.call { callee := .value (.func 22), args := #[qt 196, qt 197], argTypes := #[26, 26] }) 4 195 false,
 gop nb 199 (.unOp .not 4 (qt 198)) 4 195 false,
 sop nb 200 (.pick (qt 195) (.const (.bool true)) (qt 199)) 4,
 qmv nb 201 200 4,
 gop nb 202 (.move (qt 10)) 26 201 false,
 gop nb 203 (.buildSlice 26 3 #[(0, qi 0), (1, qi 1), (2, qi 2)]) 26 201 false,
 gop nb 204 (.call { callee := .value (.func 22), args := #[qt 202, qt 203], argTypes := #[26, 26] }) 4 201 false,
 gop nb 205 (.unOp .not 4 (qt 204)) 4 201 false,
 sop nb 206 (.pick (qt 201) (.const (.bool true)) (qt 205)) 4,
 qmv nb 207 206 4,
 gop nb 208 (.move (qt 12)) 3 207 false,
 gop nb 209 (.binOp .neq 3 (qt 208) (qi 0) 3) 4 207 false,
 sop nb 210 (.pick (qt 207) (.const (.bool true)) (qt 209)) 4,
 qmv nb 211 210 4,
 gop nb 212 (.move (qt 13)) 3 211 false,
 gop nb 213 (.binOp .neq 3 (qt 212) (qi 2) 3) 4 211 false,
 sop nb 214 (.pick (qt 211) (.const (.bool true)) (qt 213)) 4]) (
 .cond (qt 214) (
  .seq (
  .ops [sop nb 0 (.assign (.const (.bool false))) 4]) (
  .ret)) (
  .skip))) (
 .seq (
 .ops [qmv nb 215 15 26,
 sop nb 216 (.buildSlice 26 3 #[(0, qi 0), (1, qi 3), (2, qi 4)]) 26,
 qcl nb 217 22 #[qt 215, qt 216] #[26, 26] 4,
 qmv nb 218 217 4,
 gop nb 219 (.move (qt 17)) 26 218 true,
 gop nb 220 (.buildSlice 26 1 #[(0, qi 0)]) 26 218 true,
 gop nb 221 (.call { callee := .value (.func 22), args := #[qt 219, qt 220], argTypes := #[26, 26] }) 4 218 true,
 sop nb 222 (.pick (qt 218) (qt 221) (.const (.bool false))) 4,
 qmv nb 223 222 4,
 gop nb 224 (.move (qt 19)) 26 223 true,
 gop nb 225 (.buildSlice 26 5 #[(0, qi 0), (1, qi 1), (2, qi 0), (3, qi 0), (4, qi 0)]) 26 223 true,
 gop nb 226 (.call { callee := .value (.func 22), args := #[qt 224, qt 225], argTypes := #[26, 26] }) 4 223 true,
 sop nb 227 (.pick (qt 223) (qt 226) (.const (.bool false))) 4,
 qmv nb 228 227 4,
 gop nb 229 (.move (qt 21)) 25 228 true,
 gop nb 230 (.buildSlice 26 2 #[(0, qi 0), (1, qi 1)]) 26 228 true,
 gop nb 231 (.buildSlice 26 2 #[(0, qi 1), (1, qi 2)]) 26 228 true,
 gop nb 232 (.buildSlice 25 2 #[(0, qt 230), (1, qt 231)]) 25 228 true,
 gop nb 233 (.call { callee := .value (.func 21), args := #[qt 229, qt 232], argTypes := #[25, 25] }) 4 228 true,
 sop nb 234 (.pick (qt 228) (qt 233) (.const (.bool false))) 4,
 qmv nb 235 234 4,
 gop nb 236 (.move (qt 23)) 26 235 true,
 gop nb 237 (.buildSlice 26 1 #[(0, qi 1)]) 26 235 true,
 gop nb 238 (.call { callee := .value (.func 22), args := #[qt 236, qt 237], argTypes := #[26, 26] }) 4 235 true,
 sop nb 239 (.pick (qt 235) (qt 238) (.const (.bool false))) 4,
 qmv nb 240 239 4,
 gop nb 241 (.move (qt 24)) 26 240 true,
 gop nb 242 (.buildSlice 26 3 #[(0, qi 0), (1, qi 1), (2, qi 2)]) 26 240 true,
 gop nb 243 (.call { callee := .value (.func 22), args := #[qt 241, qt 242], argTypes := #[26, 26] }) 4 240 true,
 sop nb 244 (.pick (qt 240) (qt 243) (.const (.bool false))) 4,
 qsg nb 0 244 4]) (
 .ret)))))))))))))))
@[go_sem] theorem rs14 : Go.Proofs.Try.f14.results.toList = [.tmp 0] := by kernel_rfl
theorem k14 (nb : Nat) : sk nb Go.Proofs.Try.f14.ntmps (Go.Proofs.Try.f14.body.getD .skip) = some (c14 nb) := by kernel_rfl
theorem w14 {a : List Arg} {r : RV} (h : W Q (c14 0) [] ⟨ρ0 (a.map fun a => a.m.lv), h0⟩ (retG Q Go.Proofs.Try.f14.results.toList (retF r))) (l : Nat.ble a.length Go.Proofs.Try.f14.ntmps = true := by kernel_rfl) : Fn Q 14 a r := fn_intro Go.Proofs.Try.func14 rfl (by kernel_rfl) mix (k14 0) (Nat.le_of_ble_eq_true l) h
noncomputable def c17 (nb : Nat) : SC :=
 .seq (
 .ops [sop nb 2 (.assign (.const (.slice none 0 0))) 26]) (
 .seq (
 .ops [sop nb 3 (.buildSlice 26 0 #[]) 26,
 qmv nb 4 0 26,
 sop nb 5 (.call { callee := .builtin .append, args := #[qt 3, qt 4], argTypes := #[26, 26] }) 26,
 qsg nb 2 5 26]) (
 .ret))
@[go_sem] theorem rs17 : Go.Proofs.Try.f17.results.toList = [.tmp 2] := by kernel_rfl
theorem k17 (nb : Nat) : sk nb Go.Proofs.Try.f17.ntmps (Go.Proofs.Try.f17.body.getD .skip) = some (c17 nb) := by kernel_rfl
theorem w17 {a : List Arg} {r : RV} (h : W Q (c17 0) [] ⟨ρ0 (a.map fun a => a.m.lv), h0⟩ (retG Q Go.Proofs.Try.f17.results.toList (retF r))) (l : Nat.ble a.length Go.Proofs.Try.f17.ntmps = true := by kernel_rfl) : Fn Q 17 a r := fn_intro Go.Proofs.Try.func17 rfl (by kernel_rfl) mix (k17 0) (Nat.le_of_ble_eq_true l) h
noncomputable def c18 (nb : Nat) : SC :=
 .seq (
 .ops [sop nb 4 (.box 24 (qt 0)) 0,
 sop nb 8 (.assign (.const (.slice none 0 0))) 26,
 sop nb 9 (.assign (qi 0)) 34]) (
 .seq (
 .ops [qld nb 13 24 4,
 qmv nb 14 1 25,
 qmv nb 15 2 26,
 qmv nb 16 3 3,
 qcl nb 17 60 #[qt 13, qt 14, qt 15, qt 16] #[24, 25, 26, 3] 111,
 qmv nb 12 17 111,
 qex nb 18 12 0 110,
 qex nb 19 12 1 34,
 sop nb 10 (.alloc 110) 0,
 nop (.store 110 (qt 10) (qt 18)) 0,
 qsg nb 11 19 34]) (
 .seq (
 .seq (
 .ops [qmv nb 20 11 34,
 qbo nb 21 .neq 34 20 (qi 0) 34 4]) (
 .cond (qt 21) (
  .seq (
  .ops [qmv nb 22 11 34,
 sop nb 8 (.assign (.const (.slice none 0 0))) 26,
 qsg nb 9 22 34]) (
  .ret)) (
  .skip))) (
 .seq (
 .ops [sop nb 23 (.fieldAddr 110 (qt 10) 4) 0,
 qld nb 24 26 23,
 qsg nb 8 24 26,
 sop nb 9 (.assign (qi 0)) 34]) (
 .ret))))
@[go_sem] theorem rs18 : Go.Proofs.Try.f18.results.toList = [.tmp 8, .tmp 9] := by kernel_rfl
theorem k18 (nb : Nat) : sk nb Go.Proofs.Try.f18.ntmps (Go.Proofs.Try.f18.body.getD .skip) = some (c18 nb) := by kernel_rfl
theorem w18 {a : List Arg} {r : RV} (h : W Q (c18 0) [] ⟨ρ0 (a.map fun a => a.m.lv), h0⟩ (retG Q Go.Proofs.Try.f18.results.toList (retF r))) (l : Nat.ble a.length Go.Proofs.Try.f18.ntmps = true := by kernel_rfl) : Fn Q 18 a r := fn_intro Go.Proofs.Try.func18 rfl (by kernel_rfl) mix (k18 0) (Nat.le_of_ble_eq_true l) h
noncomputable def c19 (nb : Nat) : SC :=
 .seq (
 .ops [sop nb 4 (.box 24 (qt 0)) 0,
 sop nb 8 (.assign (qi 0)) 3,
 sop nb 9 (.assign (qi 0)) 3,
 sop nb 10 (.assign (qi 0)) 34]) (
 .seq (
 .ops [qld nb 15 24 4,
 qmv nb 16 1 25,
 qmv nb 17 2 26,
 qmv nb 18 3 3,
 qcl nb 19 60 #[qt 15, qt 16, qt 17, qt 18] #[24, 25, 26, 3] 111,
 qmv nb 14 19 111,
 qex nb 20 14 0 110,
 qex nb 21 14 1 34,
 sop nb 11 (.alloc 110) 0,
 nop (.store 110 (qt 11) (qt 20)) 0,
 qsg nb 10 21 34]) (
 .seq (
 .seq (
 .ops [qmv nb 22 10 34,
 qbo nb 23 .neq 34 22 (qi 0) 34 4]) (
 .cond (qt 23) (
  .seq (
  .ops [qmv nb 24 10 34,
 sop nb 8 (.assign (qi 0)) 3,
 sop nb 9 (.assign (qi 0)) 3,
 qsg nb 10 24 34]) (
  .ret)) (
  .skip))) (
 .seq (
 .ops [sop nb 25 (.fieldAddr 110 (qt 11) 4) 0,
 qld nb 26 26 25,
 qln nb 27 #[qt 26] #[26] 3,
 qsg nb 9 27 3]) (
 .seq (
 .seq (
 .ops [qmv nb 28 2 26,
 qln nb 29 #[qt 28] #[26] 3,
 sop nb 30 (.move (qi 0)) 3]) (
 .block 0 (
  .loop (
   .seq (
   .ops [qbo nb 31 .lss 3 30 (qt 29) 3 0]) (
   .seq (
   .cond (qt 31) (
    .skip) (
    .exit 0)) (
   .seq (
   .block 1 (
    .seq (
    .ops [qmv nb 32 30 3,
 qsg nb 12 32 3]) (
    .seq (
    .ops [qld nb 33 110 11,
 qmv nb 34 12 3,
 qcl nb 35 61 #[qt 33, qt 34] #[110, 3] 3,
 qsg nb 13 35 3]) (
    .seq (
    .ops [qmv nb 36 13 3,
 qmv nb 37 9 3,
 qbo nb 38 .lss 3 36 (qt 37) 3 4]) (
    .cond (qt 38) (
     .ops [qmv nb 39 12 3,
 qmv nb 40 13 3,
 qsg nb 8 39 3,
 qsg nb 9 40 3]) (
     .skip)))))) (
   .ops [qbo nb 41 .add 3 30 (qi 1) 3 3,
 qmv nb 30 41 3]))))))) (
 .seq (
 .seq (
 .ops [qmv nb 42 9 3,
 sop nb 43 (.fieldAddr 110 (qt 11) 4) 0,
 qld nb 44 26 43,
 qln nb 45 #[qt 44] #[26] 3,
 qbo nb 46 .eql 3 42 (qt 45) 3 4]) (
 .cond (qt 46) (
  .seq (
  .ops [sop nb 8 (.assign (qi 0)) 3,
 sop nb 9 (.assign (qi 0)) 3,
 sop nb 10 (.assign (qi 6)) 34]) (
  .ret)) (
  .skip))) (
 .seq (
 .ops [qmv nb 47 8 3,
 qmv nb 48 9 3,
 qsg nb 8 47 3,
 qsg nb 9 48 3,
 sop nb 10 (.assign (qi 0)) 34]) (
 .ret)))))))
@[go_sem] theorem rs19 : Go.Proofs.Try.f19.results.toList = [.tmp 8, .tmp 9, .tmp 10] := by kernel_rfl
theorem k19 (nb : Nat) : sk nb Go.Proofs.Try.f19.ntmps (Go.Proofs.Try.f19.body.getD .skip) = some (c19 nb) := by kernel_rfl
theorem w19 {a : List Arg} {r : RV} (h : W Q (c19 0) [] ⟨ρ0 (a.map fun a => a.m.lv), h0⟩ (retG Q Go.Proofs.Try.f19.results.toList (retF r))) (l : Nat.ble a.length Go.Proofs.Try.f19.ntmps = true := by kernel_rfl) : Fn Q 19 a r := fn_intro Go.Proofs.Try.func19 rfl (by kernel_rfl) mix (k19 0) (Nat.le_of_ble_eq_true l) h
noncomputable def c21 (nb : Nat) : SC :=
 .seq (
 .ops [sop nb 4 (.assign (.const (.bool false))) 4]) (
 .seq (
 .seq (
 .ops [qmv nb 6 0 25,
 qln nb 7 #[qt 6] #[25] 3,
 qmv nb 8 1 25,
 qln nb 9 #[qt 8] #[25] 3,
 qbo nb 10 .neq 3 7 (qt 9) 3 4]) (
 .cond (qt 10) (
  .seq (
  .ops [sop nb 4 (.assign (.const (.bool false))) 4]) (
  .ret)) (
  .skip))) (
 .seq (
 .seq (
 .ops [sop nb 5 (.assign (qi 0)) 3]) (
 .block 0 (
  .loop (
   .seq (
   .seq (
   .ops [qmv nb 11 5 3,
 qmv nb 12 0 25,
 qln nb 13 #[qt 12] #[25] 3,
 qbo nb 14 .lss 3 11 (qt 13) 3 4]) (
   .cond (qt 14) (
    .skip) (
    .exit 0))) (
   .seq (
   .block 1 (
    .seq (
    .ops [qmv nb 17 0 25,
 qmv nb 18 5 3,
 qix nb 19 25 17 18 0,
 qld nb 20 26 19,
 qmv nb 21 1 25,
 qmv nb 22 5 3,
 qix nb 23 25 21 22 0,
 qld nb 24 26 23,
 qcl nb 25 22 #[qt 20, qt 24] #[26, 26] 4,
 sop nb 26 (.unOp .not 4 (qt 25)) 4]) (
    .cond (qt 26) (
     .seq (
     .ops [sop nb 4 (.assign (.const (.bool false))) 4]) (
     .ret)) (
     .skip)))) (
   .ops [qmv nb 15 5 3,
 qbo nb 16 .add 3 15 (qi 1) 3 3,
 qsg nb 5 16 3])))))) (
 .seq (
 .ops [sop nb 4 (.assign (.const (.bool true))) 4]) (
 .ret))))
@[go_sem] theorem rs21 : Go.Proofs.Try.f21.results.toList = [.tmp 4] := by kernel_rfl
theorem k21 (nb : Nat) : sk nb Go.Proofs.Try.f21.ntmps (Go.Proofs.Try.f21.body.getD .skip) = some (c21 nb) := by kernel_rfl
theorem w21 {a : List Arg} {r : RV} (h : W Q (c21 0) [] ⟨ρ0 (a.map fun a => a.m.lv), h0⟩ (retG Q Go.Proofs.Try.f21.results.toList (retF r))) (l : Nat.ble a.length Go.Proofs.Try.f21.ntmps = true := by kernel_rfl) : Fn Q 21 a r := fn_intro Go.Proofs.Try.func21 rfl (by kernel_rfl) mix (k21 0) (Nat.le_of_ble_eq_true l) h
noncomputable def c22 (nb : Nat) : SC :=
 .seq (
 .ops [sop nb 4 (.assign (.const (.bool false))) 4]) (
 .seq (
 .ops [qmv nb 5 0 26,
 qmv nb 6 1 26,
 qcl nb 7 62 #[qt 5, qt 6] #[26, 26] 3,
 qbo nb 8 .eql 3 7 (qi 0) 3 4,
 qsg nb 4 8 4]) (
 .ret))
@[go_sem] theorem rs22 : Go.Proofs.Try.f22.results.toList = [.tmp 4] := by kernel_rfl
theorem k22 (nb : Nat) : sk nb Go.Proofs.Try.f22.ntmps (Go.Proofs.Try.f22.body.getD .skip) = some (c22 nb) := by kernel_rfl
theorem w22 {a : List Arg} {r : RV} (h : W Q (c22 0) [] ⟨ρ0 (a.map fun a => a.m.lv), h0⟩ (retG Q Go.Proofs.Try.f22.results.toList (retF r))) (l : Nat.ble a.length Go.Proofs.Try.f22.ntmps = true := by kernel_rfl) : Fn Q 22 a r := fn_intro Go.Proofs.Try.func22 rfl (by kernel_rfl) mix (k22 0) (Nat.le_of_ble_eq_true l) h
noncomputable def c29 (nb : Nat) : SC :=
 .seq (
 .ops [sop nb 3 (.box 24 (qt 0)) 0,
 sop nb 6 (.assign (.const (.slice none 0 0))) 26,
 sop nb 7 (.assign (qi 0)) 34]) (
 .seq (
 .ops [qld nb 14 24 3,
 qmv nb 15 1 26,
 qmv nb 16 2 26,
 sop nb 17 (.buildSlice 25 1 #[(0, qt 16)]) 25,
 qcl nb 18 64 #[qt 14, qt 15, qt 17] #[24, 26, 25] 117,
 qmv nb 13 18 117,
 qex nb 19 13 0 108,
 qex nb 20 13 1 34,
 qsg nb 8 19 108,
 qsg nb 7 20 34]) (
 .seq (
 .block 0 (
  .seq (
  .ops [qmv nb 22 7 34,
 qbo nb 23 .neq 34 22 (qi 0) 34 4,
 qsg nb 21 23 4]) (
  .cond (qt 21) (
   .seq (
   .ops [qmv nb 24 7 34,
 sop nb 6 (.assign (.const (.slice none 0 0))) 26,
 qsg nb 7 24 34]) (
   .ret)) (
   .seq (
   .ops [qmv nb 26 8 108,
 qmv nb 27 1 26,
 qmv nb 28 2 26,
 qcl nb 29 65 #[qt 26, qt 27, qt 28] #[108, 26, 26] 26,
 qln nb 30 #[qt 29] #[26] 3,
 qbo nb 31 .gtr 3 30 (qi 0) 3 4,
 qsg nb 25 31 4]) (
   .cond (qt 25) (
    .seq (
    .ops [sop nb 6 (.assign (.const (.slice none 0 0))) 26,
 sop nb 7 (.assign (qi 7)) 34]) (
    .ret)) (
    .skip)))))) (
 .seq (
 .ops [qmv nb 32 1 26,
 qcl nb 33 66 #[qt 32] #[26] 26,
 qsg nb 9 33 26]) (
 .seq (
 .seq (
 .ops [qmv nb 34 2 26,
 qln nb 35 #[qt 34] #[26] 3,
 sop nb 36 (.move (qi 0)) 3]) (
 .block 1 (
  .loop (
   .seq (
   .ops [qbo nb 37 .lss 3 36 (qt 35) 3 0]) (
   .seq (
   .cond (qt 37) (
    .skip) (
    .exit 1)) (
   .seq (
   .block 2 (
    .seq (
    .ops [qix nb 38 26 34 36 0,
 qld nb 39 3 38,
 qsg nb 11 39 3]) (
    .seq (
    .ops [qmv nb 40 8 108,
 qmv nb 41 11 3,
 qcl nb 42 67 #[qt 40, qt 41] #[108, 3] 3,
 qsg nb 12 42 3]) (
    .seq (
    .seq (
    .ops [qmv nb 43 9 26,
 qmv nb 44 12 3,
 qix nb 45 26 43 44 0,
 qld nb 46 3 45,
 qbo nb 47 .eql 3 46 (qi 0) 3 4]) (
    .cond (qt 47) (
     .ops [qmv nb 48 11 3,
 qmv nb 49 8 108,
 qmv nb 50 11 3,
 sop nb 51 (.nilCheck (qt 49)) 0,
 sop nb 52 (.fieldAddr 123 (qt 51) 1) 0,
 qix nb 53 120 52 50 0,
 qld nb 54 3 53,
 sop nb 55 (.call { callee := .builtin .max, args := #[qt 48, qt 54], argTypes := #[3, 3] }) 3,
 qsg nb 12 55 3]) (
     .skip))) (
    .seq (
    .ops [qmv nb 56 9 26,
 qmv nb 57 12 3,
 qix nb 58 26 56 57 0,
 qld nb 59 3 58,
 qbo nb 60 .sub 3 59 (qi 1) 3 3,
 qix nb 61 26 56 57 0,
 nop (.store 3 (qt 61) (qt 60)) 0]) (
    .ops [qmv nb 62 6 26,
 qmv nb 63 12 3,
 sop nb 64 (.buildSlice 26 1 #[(0, qt 63)]) 26,
 sop nb 65 (.call { callee := .builtin .append, args := #[qt 62, qt 64], argTypes := #[26, 26] }) 26,
 qsg nb 6 65 26])))))) (
   .ops [qbo nb 66 .add 3 36 (qi 1) 3 3,
 qmv nb 36 66 3]))))))) (
 .seq (
 .ops [qmv nb 67 6 26,
 qsg nb 6 67 26,
 sop nb 7 (.assign (qi 0)) 34]) (
 .ret))))))
@[go_sem] theorem rs29 : Go.Proofs.Try.f29.results.toList = [.tmp 6, .tmp 7] := by kernel_rfl
theorem k29 (nb : Nat) : sk nb Go.Proofs.Try.f29.ntmps (Go.Proofs.Try.f29.body.getD .skip) = some (c29 nb) := by kernel_rfl
theorem w29 {a : List Arg} {r : RV} (h : W Q (c29 0) [] ⟨ρ0 (a.map fun a => a.m.lv), h0⟩ (retG Q Go.Proofs.Try.f29.results.toList (retF r))) (l : Nat.ble a.length Go.Proofs.Try.f29.ntmps = true := by kernel_rfl) : Fn Q 29 a r := fn_intro Go.Proofs.Try.func29 rfl (by kernel_rfl) mix (k29 0) (Nat.le_of_ble_eq_true l) h
noncomputable def c30 (nb : Nat) : SC :=
 .seq (
 .ops [sop nb 3 (.box 24 (qt 0)) 0,
 sop nb 6 (.assign (.const (.slice none 0 0))) 26,
 sop nb 7 (.assign (qi 0)) 34]) (
 .seq (
 .ops [qld nb 12 24 3,
 qmv nb 13 1 26,
 qmv nb 14 2 26,
 sop nb 15 (.buildSlice 25 1 #[(0, qt 14)]) 25,
 qcl nb 16 64 #[qt 12, qt 13, qt 15] #[24, 26, 25] 117,
 qmv nb 11 16 117,
 qex nb 17 11 0 108,
 qex nb 18 11 1 34,
 qsg nb 8 17 108,
 qsg nb 9 18 34]) (
 .seq (
 .seq (
 .ops [qmv nb 19 9 34,
 qbo nb 20 .neq 34 19 (qi 0) 34 4]) (
 .cond (qt 20) (
  .seq (
  .ops [qmv nb 21 9 34,
 sop nb 6 (.assign (.const (.slice none 0 0))) 26,
 qsg nb 7 21 34]) (
  .ret)) (
  .skip))) (
 .seq (
 .ops [qmv nb 22 8 108,
 qmv nb 23 1 26,
 qmv nb 24 2 26,
 qcl nb 25 65 #[qt 22, qt 23, qt 24] #[108, 26, 26] 26,
 qsg nb 10 25 26]) (
 .seq (
 .seq (
 .ops [qmv nb 26 10 26,
 sop nb 27 (.binOp .eql 26 (qt 26) (.const (.slice none 0 0)) 26) 4]) (
 .cond (qt 27) (
  .seq (
  .ops [sop nb 6 (.assign (.const (.slice none 0 0))) 26,
 sop nb 7 (.assign (qi 6)) 34]) (
  .ret)) (
  .skip))) (
 .seq (
 .ops [qmv nb 28 10 26,
 qsg nb 6 28 26,
 sop nb 7 (.assign (qi 0)) 34]) (
 .ret))))))
@[go_sem] theorem rs30 : Go.Proofs.Try.f30.results.toList = [.tmp 6, .tmp 7] := by kernel_rfl
theorem k30 (nb : Nat) : sk nb Go.Proofs.Try.f30.ntmps (Go.Proofs.Try.f30.body.getD .skip) = some (c30 nb) := by kernel_rfl
theorem w30 {a : List Arg} {r : RV} (h : W Q (c30 0) [] ⟨ρ0 (a.map fun a => a.m.lv), h0⟩ (retG Q Go.Proofs.Try.f30.results.toList (retF r))) (l : Nat.ble a.length Go.Proofs.Try.f30.ntmps = true := by kernel_rfl) : Fn Q 30 a r := fn_intro Go.Proofs.Try.func30 rfl (by kernel_rfl) mix (k30 0) (Nat.le_of_ble_eq_true l) h
noncomputable def c35 (nb : Nat) : SC :=
 .seq (
 .ops [sop nb 3 (.box 24 (qt 0)) 0,
 sop nb 6 (.assign (.const (.slice none 0 0))) 26,
 sop nb 7 (.assign (qi 0)) 34]) (
 .seq (
 .ops [qld nb 18 24 3,
 qmv nb 19 1 26,
 qmv nb 20 2 25,
 qcl nb 21 64 #[qt 18, qt 19, qt 20] #[24, 26, 25] 117,
 qmv nb 17 21 117,
 qex nb 22 17 0 108,
 qex nb 23 17 1 34,
 qsg nb 8 22 108,
 qsg nb 9 23 34]) (
 .seq (
 .seq (
 .ops [qmv nb 24 9 34,
 qbo nb 25 .neq 34 24 (qi 0) 34 4]) (
 .cond (qt 25) (
  .seq (
  .ops [qmv nb 26 9 34,
 sop nb 6 (.assign (.const (.slice none 0 0))) 26,
 qsg nb 7 26 34]) (
  .ret)) (
  .skip))) (
 .seq (
 .opsD [qmv nb 27 8 108,
 qmv nb 28 1 26,
 qcl nb 29 70 #[qt 27, qt 28] #[108, 26] 125,
 sop nb 30 (.fieldAddr 24 (qt 3) 0) 0,
 qld nb 31 3 30,
 sop nb 32 (.makeSlice 26 (qt 31) (qt 31)) 26,
 sop nb 10 (.alloc 125) 0,
 nop (.store 125 (qt 10) (qt 29)) 0,
 qsg nb 11 32 26] [(2, 4), (2, 5), (2, 6), (4, 6), (5, 6), (4, 7), (5, 7)]) (
 .seq (
 .seq (
 .ops [qmv nb 33 2 25,
 qln nb 34 #[qt 33] #[25] 3,
 sop nb 35 (.move (qi 0)) 3]) (
 .block 0 (
  .loop (
   .seq (
   .ops [qbo nb 36 .lss 3 35 (qt 34) 3 0]) (
   .seq (
   .cond (qt 36) (
    .skip) (
    .exit 0)) (
   .seq (
   .block 1 (
    .seq (
    .ops [qix nb 37 25 33 35 0,
 qld nb 38 26 37,
 qsg nb 13 38 26]) (
    .seq (
    .ops [qmv nb 39 8 108,
 qmv nb 40 13 26,
 qcl nb 41 71 #[qt 39, qt 40] #[108, 26] 125,
 sop nb 42 (.move (qi 0)) 3]) (
    .block 2 (
     .loop (
      .seq (
      .ops [qbo nb 43 .lss 3 42 (qi 8) 3 0]) (
      .seq (
      .cond (qt 43) (
       .skip) (
       .exit 2)) (
      .seq (
      .block 3 (
       .seq (
       .ops [qmv nb 44 42 3,
 sop nb 45 (.index 125 (qt 41) (qt 42)) 3,
 qsg nb 14 44 3,
 qsg nb 15 45 3]) (
       .seq (
       .seq (
       .ops [qmv nb 46 15 3,
 qmv nb 47 14 3,
 qix nb 48 125 10 47 0,
 qld nb 49 3 48,
 qbo nb 50 .leq 3 46 (qt 49) 3 4]) (
       .cond (qt 50) (
        .exit 3) (
        .skip))) (
       .seq (
       .ops [qmv nb 51 14 3,
 qmv nb 52 8 108,
 qmv nb 53 14 3,
 sop nb 54 (.nilCheck (qt 52)) 0,
 sop nb 55 (.fieldAddr 123 (qt 54) 1) 0,
 qix nb 56 120 55 53 0,
 qld nb 57 3 56,
 sop nb 58 (.call { callee := .builtin .max, args := #[qt 51, qt 57], argTypes := #[3, 3] }) 3,
 qsg nb 16 58 3]) (
       .ops [qmv nb 59 11 26,
 qmv nb 60 16 3,
 qmv nb 61 11 26,
 qmv nb 62 16 3,
 qix nb 63 26 61 62 0,
 qld nb 64 3 63,
 qmv nb 65 15 3,
 qmv nb 66 14 3,
 qix nb 67 125 10 66 0,
 qld nb 68 3 67,
 qbo nb 69 .sub 3 65 (qt 68) 3 3,
 sop nb 70 (.call { callee := .builtin .max, args := #[qt 64, qt 69], argTypes := #[3, 3] }) 3,
 qix nb 71 26 59 60 0,
 nop (.store 3 (qt 71) (qt 70)) 0]))))) (
      .ops [qbo nb 72 .add 3 42 (qi 1) 3 3,
 qmv nb 42 72 3]))))))))) (
   .ops [qbo nb 73 .add 3 35 (qi 1) 3 3,
 qmv nb 35 73 3]))))))) (
 .seq (
 .ops [qmv nb 74 11 26,
 qsg nb 6 74 26,
 sop nb 7 (.assign (qi 0)) 34]) (
 .ret))))))
@[go_sem] theorem rs35 : Go.Proofs.Try.f35.results.toList = [.tmp 6, .tmp 7] := by kernel_rfl
theorem k35 (nb : Nat) : sk nb Go.Proofs.Try.f35.ntmps (Go.Proofs.Try.f35.body.getD .skip) = some (c35 nb) := by kernel_rfl
theorem w35 {a : List Arg} {r : RV} (h : W Q (c35 0) [] ⟨ρ0 (a.map fun a => a.m.lv), h0⟩ (retG Q Go.Proofs.Try.f35.results.toList (retF r))) (l : Nat.ble a.length Go.Proofs.Try.f35.ntmps = true := by kernel_rfl) : Fn Q 35 a r := fn_intro Go.Proofs.Try.func35 rfl (by kernel_rfl) mix (k35 0) (Nat.le_of_ble_eq_true l) h
noncomputable def c37 (nb : Nat) : SC :=
 .seq (
 .ops [sop nb 4 (.box 24 (qt 0)) 0,
 sop nb 8 (.assign (.const (.slice none 0 0))) 25,
 sop nb 9 (.assign (qi 0)) 34]) (
 .seq (
 .ops [qld nb 14 24 4,
 qmv nb 15 1 25,
 qmv nb 16 2 26,
 qmv nb 17 3 3,
 qcl nb 18 73 #[qt 14, qt 15, qt 16, qt 17] #[24, 25, 26, 3] 130,
 qmv nb 13 18 130,
 qex nb 19 13 0 129,
 qex nb 20 13 1 34,
 sop nb 10 (.alloc 129) 0,
 nop (.store 129 (qt 10) (qt 19)) 0,
 qsg nb 11 20 34]) (
 .seq (
 .seq (
 .ops [qmv nb 21 11 34,
 qbo nb 22 .neq 34 21 (qi 0) 34 4]) (
 .cond (qt 22) (
  .seq (
  .ops [qmv nb 23 11 34,
 sop nb 8 (.assign (.const (.slice none 0 0))) 25,
 qsg nb 9 23 34]) (
  .ret)) (
  .skip))) (
 .seq (
 .ops [qld nb 24 129 10,
 sop nb 25 (.makeFunc (.func 75) #[qt 24] #[]) 133,
 qcl nb 26 74 #[qt 25] #[155] 25,
 qsg nb 12 26 25]) (
 .seq (
 .seq (
 .ops [qmv nb 27 12 25,
 sop nb 28 (.binOp .eql 25 (qt 27) (.const (.slice none 0 0)) 25) 4]) (
 .cond (qt 28) (
  .seq (
  .ops [sop nb 8 (.assign (.const (.slice none 0 0))) 25,
 sop nb 9 (.assign (qi 7)) 34]) (
  .ret)) (
  .skip))) (
 .seq (
 .ops [qmv nb 29 12 25,
 qsg nb 8 29 25,
 sop nb 9 (.assign (qi 0)) 34]) (
 .ret))))))
@[go_sem] theorem rs37 : Go.Proofs.Try.f37.results.toList = [.tmp 8, .tmp 9] := by kernel_rfl
theorem k37 (nb : Nat) : sk nb Go.Proofs.Try.f37.ntmps (Go.Proofs.Try.f37.body.getD .skip) = some (c37 nb) := by kernel_rfl
theorem w37 {a : List Arg} {r : RV} (h : W Q (c37 0) [] ⟨ρ0 (a.map fun a => a.m.lv), h0⟩ (retG Q Go.Proofs.Try.f37.results.toList (retF r))) (l : Nat.ble a.length Go.Proofs.Try.f37.ntmps = true := by kernel_rfl) : Fn Q 37 a r := fn_intro Go.Proofs.Try.func37 rfl (by kernel_rfl) mix (k37 0) (Nat.le_of_ble_eq_true l) h
noncomputable def c38 (nb : Nat) : SC :=
 .seq (
 .ops [sop nb 4 (.box 24 (qt 0)) 0,
 sop nb 8 (.assign (.const (.slice none 0 0))) 26,
 sop nb 9 (.assign (.const (.slice none 0 0))) 26,
 sop nb 10 (.assign (qi 0)) 34]) (
 .seq (
 .ops [qld nb 20 24 4,
 qmv nb 21 1 25,
 qmv nb 22 2 26,
 qmv nb 23 3 3,
 qcl nb 24 37 #[qt 20, qt 21, qt 22, qt 23] #[24, 25, 26, 3] 60,
 qmv nb 19 24 60,
 qex nb 25 19 0 25,
 qex nb 26 19 1 34,
 qsg nb 11 25 25,
 qsg nb 10 26 34]) (
 .seq (
 .seq (
 .ops [qmv nb 27 10 34,
 qbo nb 28 .neq 34 27 (qi 0) 34 4]) (
 .cond (qt 28) (
  .seq (
  .ops [qmv nb 29 10 34,
 sop nb 8 (.assign (.const (.slice none 0 0))) 26,
 sop nb 9 (.assign (.const (.slice none 0 0))) 26,
 qsg nb 10 29 34]) (
  .ret)) (
  .skip))) (
 .seq (
 .ops [sop nb 12 (.alloc 88) 0]) (
 .seq (
 .seq (
 .ops [qmv nb 30 11 25,
 qln nb 31 #[qt 30] #[25] 3,
 sop nb 32 (.move (qi 0)) 3]) (
 .block 0 (
  .loop (
   .seq (
   .ops [qbo nb 33 .lss 3 32 (qt 31) 3 0]) (
   .seq (
   .cond (qt 33) (
    .skip) (
    .exit 0)) (
   .seq (
   .block 1 (
    .seq (
    .ops [qix nb 34 25 30 32 0,
 qld nb 35 26 34,
 qsg nb 14 35 26]) (
    .seq (
    .ops [qmv nb 36 14 26,
 qln nb 37 #[qt 36] #[26] 3,
 sop nb 38 (.move (qi 0)) 3]) (
    .block 2 (
     .loop (
      .seq (
      .ops [qbo nb 39 .lss 3 38 (qt 37) 3 0]) (
      .seq (
      .cond (qt 39) (
       .skip) (
       .exit 2)) (
      .seq (
      .block 3 (
       .seq (
       .ops [qix nb 40 26 36 38 0,
 qld nb 41 3 40,
 qsg nb 16 41 3]) (
       .ops [qmv nb 42 16 3,
 qix nb 43 88 12 42 0,
 qld nb 44 3 43,
 qbo nb 45 .add 3 44 (qi 1) 3 3,
 qix nb 46 88 12 42 0,
 nop (.store 3 (qt 46) (qt 45)) 0]))) (
      .ops [qbo nb 47 .add 3 38 (qi 1) 3 3,
 qmv nb 38 47 3]))))))))) (
   .ops [qbo nb 48 .add 3 32 (qi 1) 3 3,
 qmv nb 32 48 3]))))))) (
 .seq (
 .seq (
 .ops [qld nb 49 88 12,
 sop nb 50 (.move (qi 0)) 3]) (
 .block 4 (
  .loop (
   .seq (
   .ops [qbo nb 51 .lss 3 50 (qi 4) 3 0]) (
   .seq (
   .cond (qt 51) (
    .skip) (
    .exit 4)) (
   .seq (
   .block 5 (
    .seq (
    .ops [qmv nb 52 50 3,
 sop nb 53 (.index 88 (qt 49) (qt 50)) 3,
 qsg nb 17 52 3,
 qsg nb 18 53 3]) (
    .seq (
    .ops [qmv nb 54 18 3]) (
    .block 6 (
     .seq (
     .block 8 (
      .seq (
      .block 7 (
       .seq (
       .seq (
       .ops [qmv nb 56 11 25,
 qln nb 57 #[qt 56] #[25] 3,
 qbo nb 58 .eql 3 54 (qt 57) 3 4,
 qsg nb 55 58 4]) (
       .cond (qt 55) (
        .exit 7) (
        .skip))) (
       .exit 8))) (
      .ops [qmv nb 59 8 26,
 qmv nb 60 17 3,
 sop nb 61 (.buildSlice 26 1 #[(0, qt 60)]) 26,
 sop nb 62 (.call { callee := .builtin .append, args := #[qt 59, qt 61], argTypes := #[26, 26] }) 26,
 qsg nb 8 62 26]))) (
     .seq (
     .seq (
     .ops [qmv nb 63 18 3,
 qbo nb 64 .gtr 3 63 (qi 0) 3 4]) (
     .cond (qt 64) (
      .ops [qmv nb 65 9 26,
 qmv nb 66 17 3,
 sop nb 67 (.buildSlice 26 1 #[(0, qt 66)]) 26,
 sop nb 68 (.call { callee := .builtin .append, args := #[qt 65, qt 67], argTypes := #[26, 26] }) 26,
 qsg nb 9 68 26]) (
      .skip))) (
     .exit 6))))))) (
   .ops [qbo nb 69 .add 3 50 (qi 1) 3 3,
 qmv nb 50 69 3]))))))) (
 .seq (
 .ops [qmv nb 70 8 26,
 qmv nb 71 9 26,
 qsg nb 8 70 26,
 qsg nb 9 71 26,
 sop nb 10 (.assign (qi 0)) 34]) (
 .ret)))))))
@[go_sem] theorem rs38 : Go.Proofs.Try.f38.results.toList = [.tmp 8, .tmp 9, .tmp 10] := by kernel_rfl
theorem k38 (nb : Nat) : sk nb Go.Proofs.Try.f38.ntmps (Go.Proofs.Try.f38.body.getD .skip) = some (c38 nb) := by kernel_rfl
theorem w38 {a : List Arg} {r : RV} (h : W Q (c38 0) [] ⟨ρ0 (a.map fun a => a.m.lv), h0⟩ (retG Q Go.Proofs.Try.f38.results.toList (retF r))) (l : Nat.ble a.length Go.Proofs.Try.f38.ntmps = true := by kernel_rfl) : Fn Q 38 a r := fn_intro Go.Proofs.Try.func38 rfl (by kernel_rfl) mix (k38 0) (Nat.le_of_ble_eq_true l) h
noncomputable def c42 (nb : Nat) : SC :=
 .seq (
 .ops [sop nb 1 (.box 71 (qt 0)) 0,
 sop nb 2 (.alloc 24) 0]) (
 .seq (
 .ops [sop nb 9 (.fieldAddr 71 (qt 1) 0) 0,
 qld nb 10 5 9,
 sop nb 11 (.convert 5 3 (qt 10)) 3,
 qbo nb 12 .rem 3 11 (qi 8) 3 3,
 sop nb 13 (.binOp .add 3 (qi 1) (qt 12) 3) 3,
 sop nb 14 (.build 24 #[(0, qt 13)]) 24,
 sop nb 15 (.build 134 #[]) 134,
 sop nb 3 (.alloc 24) 0,
 sop nb 4 (.alloc 134) 0,
 nop (.store 24 (qt 3) (qt 14)) 0,
 nop (.store 134 (qt 4) (qt 15)) 0]) (
 .seq (
 .seq (
 .ops [sop nb 5 (.assign (qi 0)) 3]) (
 .block 0 (
  .loop (
   .seq (
   .seq (
   .ops [qmv nb 16 5 3,
 sop nb 17 (.fieldAddr 71 (qt 1) 1) 0,
 qld nb 18 69 17,
 qln nb 19 #[qt 18] #[69] 3,
 qbo nb 20 .lss 3 16 (qt 19) 3 4,
 qmv nb 21 20 4,
 gop nb 22 (.move (qt 5)) 3 21 true,
 gop nb 23 (.binOp .lss 3 (qt 22) (qi 6) 3) 4 21 true,
 sop nb 24 (.pick (qt 21) (qt 23) (.const (.bool false))) 4]) (
   .cond (qt 24) (
    .skip) (
    .exit 0))) (
   .seq (
   .block 1 (
    .seq (
    .opsD [sop nb 27 (.fieldAddr 71 (qt 1) 1) 0,
 qld nb 28 69 27,
 qmv nb 29 5 3,
 qix nb 30 69 28 29 0,
 sop nb 31 (.indexAddr 135 (qt 30) (qi 0)) 0,
 qld nb 32 5 31,
 sop nb 33 (.convert 5 3 (qt 32)) 3,
 sop nb 34 (.fieldAddr 24 (qt 3) 0) 0,
 qld nb 35 3 34,
 qbo nb 36 .rem 3 33 (qt 35) 3 3,
 sop nb 37 (.fieldAddr 71 (qt 1) 1) 0,
 qld nb 38 69 37,
 qmv nb 39 5 3,
 qix nb 40 69 38 39 0,
 sop nb 41 (.indexAddr 135 (qt 40) (qi 1)) 0,
 qld nb 42 5 41,
 sop nb 43 (.convert 5 3 (qt 42)) 3,
 sop nb 44 (.fieldAddr 24 (qt 3) 0) 0,
 qld nb 45 3 44,
 qbo nb 46 .rem 3 43 (qt 45) 3 3,
 sop nb 47 (.build 115 #[(0, qt 36), (1, qt 46)]) 115,
 sop nb 6 (.alloc 115) 0,
 nop (.store 115 (qt 6) (qt 47)) 0] [(1, 21), (3, 21), (4, 21), (5, 21), (8, 21), (11, 21), (13, 21), (14, 21), (15, 21), (18, 21)]) (
    .seq (
    .ops [sop nb 48 (.fieldAddr 115 (qt 6) 0) 0,
 qld nb 49 3 48,
 qix nb 50 134 4 49 0,
 qld nb 51 4 50,
 sop nb 52 (.unOp .not 4 (qt 51)) 4,
 qmv nb 53 52 4,
 gop nb 54 (.fieldAddr 115 (qt 6) 1) 0 53 true,
 gop nb 55 (.load 3 (qt 54)) 3 53 true,
 gop nb 56 (.indexAddr 134 (qt 4) (qt 55)) 0 53 true,
 gop nb 57 (.load 4 (qt 56)) 4 53 true,
 gop nb 58 (.unOp .not 4 (qt 57)) 4 53 true,
 sop nb 59 (.pick (qt 53) (qt 58) (.const (.bool false))) 4]) (
    .cond (qt 59) (
     .seq (
     .ops [sop nb 60 (.fieldAddr 24 (qt 3) 1) 0,
 qld nb 61 22 60,
 qld nb 62 115 6,
 sop nb 63 (.buildSlice 22 1 #[(0, qt 62)]) 22,
 sop nb 64 (.call { callee := .builtin .append, args := #[qt 61, qt 63], argTypes := #[22, 22] }) 22,
 sop nb 65 (.fieldAddr 24 (qt 3) 1) 0,
 nop (.store 22 (qt 65) (qt 64)) 0]) (
     .opsD [sop nb 66 (.fieldAddr 115 (qt 6) 0) 0,
 qld nb 67 3 66,
 sop nb 68 (.fieldAddr 115 (qt 6) 1) 0,
 qld nb 69 3 68,
 qix nb 70 134 4 67 0,
 nop (.store 4 (qt 70) (.const (.bool true))) 0,
 qix nb 71 134 4 69 0,
 nop (.store 4 (qt 71) (.const (.bool true))) 0] [(3, 5)])) (
     .skip))))) (
   .ops [qmv nb 25 5 3,
 qbo nb 26 .add 3 25 (qi 1) 3 3,
 qsg nb 5 26 3])))))) (
 .seq (
 .seq (
 .ops [sop nb 7 (.assign (qi 0)) 3]) (
 .block 2 (
  .loop (
   .seq (
   .seq (
   .ops [qmv nb 72 7 3,
 sop nb 73 (.fieldAddr 71 (qt 1) 2) 0,
 qld nb 74 69 73,
 qln nb 75 #[qt 74] #[69] 3,
 qbo nb 76 .lss 3 72 (qt 75) 3 4,
 qmv nb 77 76 4,
 gop nb 78 (.move (qt 7)) 3 77 true,
 gop nb 79 (.binOp .lss 3 (qt 78) (qi 6) 3) 4 77 true,
 sop nb 80 (.pick (qt 77) (qt 79) (.const (.bool false))) 4]) (
   .cond (qt 80) (
    .skip) (
    .exit 2))) (
   .seq (
   .block 3 (
    .seq (
    .opsD [sop nb 83 (.fieldAddr 71 (qt 1) 2) 0,
 qld nb 84 69 83,
 qmv nb 85 7 3,
 qix nb 86 69 84 85 0,
 sop nb 87 (.indexAddr 135 (qt 86) (qi 0)) 0,
 qld nb 88 5 87,
 sop nb 89 (.convert 5 3 (qt 88)) 3,
 sop nb 90 (.fieldAddr 24 (qt 3) 0) 0,
 qld nb 91 3 90,
 qbo nb 92 .rem 3 89 (qt 91) 3 3,
 sop nb 93 (.fieldAddr 71 (qt 1) 2) 0,
 qld nb 94 69 93,
 qmv nb 95 7 3,
 qix nb 96 69 94 95 0,
 sop nb 97 (.indexAddr 135 (qt 96) (qi 1)) 0,
 qld nb 98 5 97,
 sop nb 99 (.convert 5 3 (qt 98)) 3,
 sop nb 100 (.fieldAddr 24 (qt 3) 0) 0,
 qld nb 101 3 100,
 qbo nb 102 .rem 3 99 (qt 101) 3 3,
 sop nb 103 (.build 115 #[(0, qt 92), (1, qt 102)]) 115,
 sop nb 8 (.alloc 115) 0,
 nop (.store 115 (qt 8) (qt 103)) 0] [(1, 21), (3, 21), (4, 21), (5, 21), (8, 21), (11, 21), (13, 21), (14, 21), (15, 21), (18, 21)]) (
    .seq (
    .ops [sop nb 104 (.fieldAddr 115 (qt 8) 0) 0,
 qld nb 105 3 104,
 sop nb 106 (.fieldAddr 115 (qt 8) 1) 0,
 qld nb 107 3 106,
 qbo nb 108 .neq 3 105 (qt 107) 3 4]) (
    .cond (qt 108) (
     .ops [sop nb 109 (.fieldAddr 24 (qt 3) 2) 0,
 qld nb 110 22 109,
 qld nb 111 115 8,
 sop nb 112 (.buildSlice 22 1 #[(0, qt 111)]) 22,
 sop nb 113 (.call { callee := .builtin .append, args := #[qt 110, qt 112], argTypes := #[22, 22] }) 22,
 sop nb 114 (.fieldAddr 24 (qt 3) 2) 0,
 nop (.store 22 (qt 114) (qt 113)) 0]) (
     .skip))))) (
   .ops [qmv nb 81 7 3,
 qbo nb 82 .add 3 81 (qi 1) 3 3,
 qsg nb 7 82 3])))))) (
 .seq (
 .ops [qld nb 115 24 3,
 nop (.store 24 (qt 2) (qt 115)) 0]) (
 .ret)))))
noncomputable def c43 (nb : Nat) : SC :=
 .seq (
 .ops [sop nb 2 (.box 24 (qt 0)) 0,
 sop nb 4 (.assign (.const (.slice none 0 0))) 26]) (
 .seq (
 .ops [sop nb 7 (.buildSlice 26 0 #[]) 26,
 qsg nb 5 7 26]) (
 .seq (
 .seq (
 .ops [sop nb 6 (.assign (qi 0)) 3]) (
 .block 0 (
  .loop (
   .seq (
   .seq (
   .ops [qmv nb 8 6 3,
 qmv nb 9 1 72,
 qln nb 10 #[qt 9] #[72] 3,
 qbo nb 11 .lss 3 8 (qt 10) 3 4,
 qmv nb 12 11 4,
 gop nb 13 (.move (qt 6)) 3 12 true,
 gop nb 14 (.binOp .lss 3 (qt 13) (qi 6) 3) 4 12 true,
 sop nb 15 (.pick (qt 12) (qt 14) (.const (.bool false))) 4]) (
   .cond (qt 15) (
    .skip) (
    .exit 0))) (
   .seq (
   .block 1 (
    .ops [qmv nb 18 5 26,
 qmv nb 19 1 72,
 qmv nb 20 6 3,
 qix nb 21 72 19 20 0,
 qld nb 22 5 21,
 sop nb 23 (.convert 5 3 (qt 22)) 3,
 sop nb 24 (.fieldAddr 24 (qt 2) 0) 0,
 qld nb 25 3 24,
 qbo nb 26 .rem 3 23 (qt 25) 3 3,
 sop nb 27 (.buildSlice 26 1 #[(0, qt 26)]) 26,
 sop nb 28 (.call { callee := .builtin .append, args := #[qt 18, qt 27], argTypes := #[26, 26] }) 26,
 qsg nb 5 28 26])) (
   .ops [qmv nb 16 6 3,
 qbo nb 17 .add 3 16 (qi 1) 3 3,
 qsg nb 6 17 3])))))) (
 .seq (
 .seq (
 .ops [qmv nb 29 5 26,
 qln nb 30 #[qt 29] #[26] 3,
 qbo nb 31 .eql 3 30 (qi 0) 3 4]) (
 .cond (qt 31) (
  .ops [qmv nb 32 5 26,
 sop nb 33 (.buildSlice 26 1 #[(0, qi 0)]) 26,
 sop nb 34 (.call { callee := .builtin .append, args := #[qt 32, qt 33], argTypes := #[26, 26] }) 26,
 qsg nb 5 34 26]) (
  .skip))) (
 .seq (
 .ops [qmv nb 35 5 26,
 qsg nb 4 35 26]) (
 .ret)))))
noncomputable def c45 (nb : Nat) : SC :=
 .seq (
 .ops [sop nb 3 (.box 24 (qt 0)) 0,
 sop nb 6 (.assign (.const (.slice none 0 0))) 79,
 sop nb 7 (.assign (qi 0)) 34]) (
 .seq (
 .ops [qld nb 15 24 3,
 qmv nb 16 1 26,
 qmv nb 17 2 26,
 qcl nb 18 78 #[qt 15, qt 16, qt 17] #[24, 26, 26] 117,
 qmv nb 14 18 117,
 qex nb 19 14 0 108,
 qex nb 20 14 1 34,
 qsg nb 8 19 108,
 qsg nb 7 20 34]) (
 .seq (
 .seq (
 .ops [qmv nb 21 7 34,
 qbo nb 22 .neq 34 21 (qi 0) 34 4]) (
 .cond (qt 22) (
  .seq (
  .ops [qmv nb 23 7 34,
 sop nb 6 (.assign (.const (.slice none 0 0))) 79,
 qsg nb 7 23 34]) (
  .ret)) (
  .skip))) (
 .seq (
 .seq (
 .ops [qmv nb 24 1 26,
 qln nb 25 #[qt 24] #[26] 3,
 sop nb 26 (.move (qi 0)) 3]) (
 .block 0 (
  .loop (
   .seq (
   .ops [qbo nb 27 .lss 3 26 (qt 25) 3 0]) (
   .seq (
   .cond (qt 27) (
    .skip) (
    .exit 0)) (
   .seq (
   .block 1 (
    .seq (
    .ops [qmv nb 28 26 3,
 qix nb 29 26 24 26 0,
 qld nb 30 3 29,
 qsg nb 9 28 3,
 qsg nb 10 30 3]) (
    .seq (
    .ops [sop nb 11 (.assign (.const (.slice none 0 0))) 82]) (
    .seq (
    .seq (
    .ops [qmv nb 31 8 108,
 qmv nb 32 10 3,
 qmv nb 33 2 26,
 qmv nb 34 9 3,
 qix nb 35 26 33 34 0,
 qld nb 36 3 35,
 qcl nb 37 79 #[qt 31, qt 32, qt 36] #[108, 3, 3] 138,
 qln nb 38 #[qt 37] #[138] 3,
 sop nb 39 (.move (qi 0)) 3]) (
    .block 2 (
     .loop (
      .seq (
      .ops [qbo nb 40 .lss 3 39 (qt 38) 3 0]) (
      .seq (
      .cond (qt 40) (
       .skip) (
       .exit 2)) (
      .seq (
      .block 3 (
       .seq (
       .ops [qix nb 41 138 37 39 0,
 qld nb 42 141 41,
 sop nb 13 (.alloc 141) 0,
 nop (.store 141 (qt 13) (qt 42)) 0]) (
       .ops [qmv nb 43 11 82,
 sop nb 44 (.fieldAddr 141 (qt 13) 0) 0,
 qld nb 45 76 44,
 sop nb 46 (.buildSlice 82 1 #[(0, qt 45)]) 82,
 sop nb 47 (.call { callee := .builtin .append, args := #[qt 43, qt 46], argTypes := #[82, 82] }) 82,
 qsg nb 11 47 82]))) (
      .ops [qbo nb 48 .add 3 39 (qi 1) 3 3,
 qmv nb 39 48 3]))))))) (
    .ops [qmv nb 49 6 79,
 qmv nb 50 11 82,
 qcl nb 51 80 #[qt 50] #[82] 82,
 sop nb 52 (.buildSlice 79 1 #[(0, qt 51)]) 79,
 sop nb 53 (.call { callee := .builtin .append, args := #[qt 49, qt 52], argTypes := #[79, 79] }) 79,
 qsg nb 6 53 79]))))) (
   .ops [qbo nb 54 .add 3 26 (qi 1) 3 3,
 qmv nb 26 54 3]))))))) (
 .seq (
 .ops [qmv nb 55 6 79,
 qsg nb 6 55 79,
 sop nb 7 (.assign (qi 0)) 34]) (
 .ret)))))
@[go_sem] theorem rs45 : Go.Proofs.Try.f45.results.toList = [.tmp 6, .tmp 7] := by kernel_rfl
theorem k45 (nb : Nat) : sk nb Go.Proofs.Try.f45.ntmps (Go.Proofs.Try.f45.body.getD .skip) = some (c45 nb) := by kernel_rfl
theorem w45 {a : List Arg} {r : RV} (h : W Q (c45 0) [] ⟨ρ0 (a.map fun a => a.m.lv), h0⟩ (retG Q Go.Proofs.Try.f45.results.toList (retF r))) (l : Nat.ble a.length Go.Proofs.Try.f45.ntmps = true := by kernel_rfl) : Fn Q 45 a r := fn_intro Go.Proofs.Try.func45 rfl (by kernel_rfl) mix (k45 0) (Nat.le_of_ble_eq_true l) h
noncomputable def c46 (nb : Nat) : SC :=
 .seq (
 .ops [sop nb 1 (.box 24 (qt 0)) 0,
 sop nb 2 (.alloc 24) 0]) (
 .seq (
 .opsD [sop nb 3 (.buildSlice 22 0 #[]) 22,
 sop nb 4 (.fieldAddr 24 (qt 1) 1) 0,
 qld nb 5 22 4,
 sop nb 6 (.call { callee := .builtin .append, args := #[qt 3, qt 5], argTypes := #[22, 22] }) 22,
 sop nb 7 (.buildSlice 22 0 #[]) 22,
 sop nb 8 (.fieldAddr 24 (qt 1) 2) 0,
 qld nb 9 22 8,
 sop nb 10 (.call { callee := .builtin .append, args := #[qt 7, qt 9], argTypes := #[22, 22] }) 22,
 sop nb 11 (.fieldAddr 24 (qt 1) 1) 0,
 nop (.store 22 (qt 11) (qt 6)) 0,
 sop nb 12 (.fieldAddr 24 (qt 1) 2) 0,
 nop (.store 22 (qt 12) (qt 10)) 0] [(0, 2), (0, 4), (2, 4), (3, 4), (0, 6), (3, 6), (4, 6)]) (
 .seq (
 .ops [qld nb 13 24 1,
 nop (.store 24 (qt 2) (qt 13)) 0]) (
 .ret)))
noncomputable def c47 (nb : Nat) : SC :=
 .seq (
 .ops [sop nb 3 (.box 24 (qt 0)) 0,
 sop nb 6 (.assign (.const (.slice none 0 0))) 82,
 sop nb 7 (.assign (qi 0)) 3,
 sop nb 8 (.assign (qi 0)) 34]) (
 .seq (
 .ops [qld nb 15 24 3,
 qmv nb 16 1 26,
 qmv nb 17 2 26,
 qcl nb 18 78 #[qt 15, qt 16, qt 17] #[24, 26, 26] 117,
 qmv nb 14 18 117,
 qex nb 19 14 0 108,
 qex nb 20 14 1 34,
 qsg nb 9 19 108,
 qsg nb 10 20 34]) (
 .seq (
 .seq (
 .ops [qmv nb 21 10 34,
 qbo nb 22 .neq 34 21 (qi 0) 34 4]) (
 .cond (qt 22) (
  .seq (
  .ops [qmv nb 23 10 34,
 sop nb 6 (.assign (.const (.slice none 0 0))) 82,
 sop nb 7 (.assign (qi 0)) 3,
 qsg nb 8 23 34]) (
  .ret)) (
  .skip))) (
 .seq (
 .ops [qmv nb 25 9 108,
 qmv nb 26 1 26,
 qmv nb 27 2 26,
 qcl nb 28 81 #[qt 25, qt 26, qt 27] #[108, 26, 26] 143,
 qmv nb 24 28 143,
 qex nb 29 24 0 82,
 qex nb 30 24 1 3,
 qex nb 31 24 2 4,
 qsg nb 11 29 82,
 qsg nb 12 30 3,
 qsg nb 13 31 4]) (
 .seq (
 .seq (
 .ops [qmv nb 32 13 4,
 sop nb 33 (.unOp .not 4 (qt 32)) 4]) (
 .cond (qt 33) (
  .seq (
  .ops [sop nb 6 (.assign (.const (.slice none 0 0))) 82,
 sop nb 7 (.assign (qi 0)) 3,
 sop nb 8 (.assign (qi 7)) 34]) (
  .ret)) (
  .skip))) (
 .seq (
 .ops [qmv nb 34 11 82,
 qmv nb 35 12 3,
 qsg nb 6 34 82,
 qsg nb 7 35 3,
 sop nb 8 (.assign (qi 0)) 34]) (
 .ret))))))
@[go_sem] theorem rs47 : Go.Proofs.Try.f47.results.toList = [.tmp 6, .tmp 7, .tmp 8] := by kernel_rfl
theorem k47 (nb : Nat) : sk nb Go.Proofs.Try.f47.ntmps (Go.Proofs.Try.f47.body.getD .skip) = some (c47 nb) := by kernel_rfl
theorem w47 {a : List Arg} {r : RV} (h : W Q (c47 0) [] ⟨ρ0 (a.map fun a => a.m.lv), h0⟩ (retG Q Go.Proofs.Try.f47.results.toList (retF r))) (l : Nat.ble a.length Go.Proofs.Try.f47.ntmps = true := by kernel_rfl) : Fn Q 47 a r := fn_intro Go.Proofs.Try.func47 rfl (by kernel_rfl) mix (k47 0) (Nat.le_of_ble_eq_true l) h
noncomputable def c48 (nb : Nat) : SC :=
 .seq (
 .ops [sop nb 2 (.assign (.const (.slice none 0 0))) 26]) (
 .seq (
 .ops [sop nb 5 (.buildSlice 26 0 #[]) 26,
 qsg nb 3 5 26]) (
 .seq (
 .seq (
 .ops [sop nb 4 (.assign (qi 0)) 3]) (
 .block 0 (
  .loop (
   .seq (
   .seq (
   .ops [qmv nb 6 4 3,
 qmv nb 7 0 82,
 qln nb 8 #[qt 7] #[82] 3,
 qbo nb 9 .lss 3 6 (qt 8) 3 4]) (
   .cond (qt 9) (
    .skip) (
    .exit 0))) (
   .seq (
   .block 1 (
    .ops [qmv nb 12 3 26,
 qmv nb 13 0 82,
 qmv nb 14 4 3,
 qix nb 15 82 13 14 0,
 qld nb 16 76 15,
 sop nb 17 (.buildSlice 26 1 #[(0, qt 16)]) 26,
 sop nb 18 (.call { callee := .builtin .append, args := #[qt 12, qt 17], argTypes := #[26, 26] }) 26,
 qsg nb 3 18 26])) (
   .ops [qmv nb 10 4 3,
 qbo nb 11 .add 3 10 (qi 1) 3 3,
 qsg nb 4 11 3])))))) (
 .seq (
 .ops [qmv nb 19 3 26,
 qsg nb 2 19 26]) (
 .ret))))
@[go_sem] theorem rs48 : Go.Proofs.Try.f48.results.toList = [.tmp 2] := by kernel_rfl
theorem k48 (nb : Nat) : sk nb Go.Proofs.Try.f48.ntmps (Go.Proofs.Try.f48.body.getD .skip) = some (c48 nb) := by kernel_rfl
theorem w48 {a : List Arg} {r : RV} (h : W Q (c48 0) [] ⟨ρ0 (a.map fun a => a.m.lv), h0⟩ (retG Q Go.Proofs.Try.f48.results.toList (retF r))) (l : Nat.ble a.length Go.Proofs.Try.f48.ntmps = true := by kernel_rfl) : Fn Q 48 a r := fn_intro Go.Proofs.Try.func48 rfl (by kernel_rfl) mix (k48 0) (Nat.le_of_ble_eq_true l) h
noncomputable def c49 (nb : Nat) : SC :=
 .seq (
 .ops [sop nb 4 (.assign (.const (.bool false))) 4]) (
 .seq (
 .seq (
 .ops [sop nb 5 (.assign (qi 0)) 3]) (
 .block 0 (
  .loop (
   .seq (
   .seq (
   .ops [qmv nb 6 5 3,
 qmv nb 7 0 26,
 qln nb 8 #[qt 7] #[26] 3,
 qbo nb 9 .lss 3 6 (qt 8) 3 4]) (
   .cond (qt 9) (
    .skip) (
    .exit 0))) (
   .seq (
   .block 1 (
    .seq (
    .ops [qmv nb 12 0 26,
 qmv nb 13 5 3,
 qix nb 14 26 12 13 0,
 qld nb 15 3 14,
 qmv nb 16 1 3,
 qbo nb 17 .eql 3 15 (qt 16) 3 4]) (
    .cond (qt 17) (
     .seq (
     .ops [sop nb 4 (.assign (.const (.bool true))) 4]) (
     .ret)) (
     .skip)))) (
   .ops [qmv nb 10 5 3,
 qbo nb 11 .add 3 10 (qi 1) 3 3,
 qsg nb 5 11 3])))))) (
 .seq (
 .ops [sop nb 4 (.assign (.const (.bool false))) 4]) (
 .ret)))
noncomputable def c50 (nb : Nat) : SC :=
 .seq (
 .ops [sop nb 2 (.box 24 (qt 0)) 0,
 sop nb 4 (.assign (qi 0)) 3]) (
 .seq (
 .seq (
 .ops [sop nb 5 (.assign (qi 0)) 3]) (
 .block 0 (
  .loop (
   .seq (
   .seq (
   .ops [qmv nb 7 5 3,
 sop nb 8 (.fieldAddr 24 (qt 2) 1) 0,
 qld nb 9 22 8,
 qln nb 10 #[qt 9] #[22] 3,
 qbo nb 11 .lss 3 7 (qt 10) 3 4]) (
   .cond (qt 11) (
    .skip) (
    .exit 0))) (
   .seq (
   .block 1 (
    .seq (
    .ops [sop nb 14 (.fieldAddr 24 (qt 2) 1) 0,
 qld nb 15 22 14,
 qmv nb 16 5 3,
 qix nb 17 22 15 16 0,
 qld nb 18 115 17,
 sop nb 6 (.alloc 115) 0,
 nop (.store 115 (qt 6) (qt 18)) 0]) (
    .seq (
    .ops [qmv nb 19 1 3]) (
    .block 2 (
     .seq (
     .ops [sop nb 21 (.fieldAddr 115 (qt 6) 0) 0,
 qld nb 22 3 21,
 qbo nb 23 .eql 3 19 (qt 22) 3 4,
 qsg nb 20 23 4]) (
     .cond (qt 20) (
      .seq (
      .ops [sop nb 24 (.fieldAddr 115 (qt 6) 1) 0,
 qld nb 25 3 24,
 qsg nb 4 25 3]) (
      .ret)) (
      .seq (
      .ops [sop nb 27 (.fieldAddr 115 (qt 6) 1) 0,
 qld nb 28 3 27,
 qbo nb 29 .eql 3 19 (qt 28) 3 4,
 qsg nb 26 29 4]) (
      .cond (qt 26) (
       .seq (
       .ops [sop nb 30 (.fieldAddr 115 (qt 6) 0) 0,
 qld nb 31 3 30,
 qsg nb 4 31 3]) (
       .ret)) (
       .skip))))))))) (
   .ops [qmv nb 12 5 3,
 qbo nb 13 .add 3 12 (qi 1) 3 3,
 qsg nb 5 13 3])))))) (
 .seq (
 .ops [sop nb 4 (.assign (qi (-1))) 3]) (
 .ret)))
noncomputable def c53 (nb : Nat) : SC :=
 .seq (
 .ops [sop nb 2 (.box 24 (qt 0)) 0,
 sop nb 3 (.box 95 (qt 1)) 0,
 sop nb 4 (.assign (.const (.slice none 0 0))) 26]) (
 .seq (
 .ops [sop nb 7 (.buildSlice 26 0 #[]) 26,
 qsg nb 5 7 26]) (
 .seq (
 .seq (
 .ops [sop nb 6 (.assign (qi 0)) 3]) (
 .block 0 (
  .loop (
   .seq (
   .seq (
   .ops [qmv nb 8 6 3,
 sop nb 9 (.fieldAddr 24 (qt 2) 0) 0,
 qld nb 10 3 9,
 qbo nb 11 .lss 3 8 (qt 10) 3 4]) (
   .cond (qt 11) (
    .skip) (
    .exit 0))) (
   .seq (
   .block 1 (
    .ops [qmv nb 14 5 26,
 qmv nb 15 6 3,
 qix nb 16 95 3 15 0,
 qld nb 17 5 16,
 sop nb 18 (.convert 5 3 (qt 17)) 3,
 qbo nb 19 .rem 3 18 (qi 6) 3 3,
 sop nb 20 (.buildSlice 26 1 #[(0, qt 19)]) 26,
 sop nb 21 (.call { callee := .builtin .append, args := #[qt 14, qt 20], argTypes := #[26, 26] }) 26,
 qsg nb 5 21 26])) (
   .ops [qmv nb 12 6 3,
 qbo nb 13 .add 3 12 (qi 1) 3 3,
 qsg nb 6 13 3])))))) (
 .seq (
 .ops [qmv nb 22 5 26,
 qsg nb 4 22 26]) (
 .ret))))
noncomputable def c57 (nb : Nat) : SC :=
 .seq (
 .ops [sop nb 0 (.alloc 24) 0]) (
 .seq (
 .ops [sop nb 1 (.build 115 #[(0, qi 0), (1, qi 1)]) 115,
 sop nb 2 (.build 115 #[(0, qi 2), (1, qi 2)]) 115,
 sop nb 3 (.build 115 #[(0, qi 3), (1, qi 3)]) 115,
 sop nb 4 (.buildSlice 22 3 #[(0, qt 1), (1, qt 2), (2, qt 3)]) 22,
 sop nb 5 (.build 115 #[(0, qi 0), (1, qi 2)]) 115,
 sop nb 6 (.build 115 #[(0, qi 3), (1, qi 4)]) 115,
 sop nb 7 (.buildSlice 22 2 #[(0, qt 5), (1, qt 6)]) 22,
 sop nb 8 (.build 24 #[(0, qi 5), (1, qt 4), (2, qt 7)]) 24,
 nop (.store 24 (qt 0) (qt 8)) 0]) (
 .ret))
@[go_sem] theorem rs57 : Go.Proofs.Try.f57.results.toList = [.cell 0 24] := by kernel_rfl
theorem k57 (nb : Nat) : sk nb Go.Proofs.Try.f57.ntmps (Go.Proofs.Try.f57.body.getD .skip) = some (c57 nb) := by kernel_rfl
theorem w57 {a : List Arg} {r : RV} (h : W Q (c57 0) [] ⟨ρ0 (a.map fun a => a.m.lv), h0⟩ (retG Q Go.Proofs.Try.f57.results.toList (retF r))) (l : Nat.ble a.length Go.Proofs.Try.f57.ntmps = true := by kernel_rfl) : Fn Q 57 a r := fn_intro Go.Proofs.Try.func57 rfl (by kernel_rfl) mix (k57 0) (Nat.le_of_ble_eq_true l) h
noncomputable def c58 (nb : Nat) : SC :=
 .seq (
 .ops [sop nb 0 (.assign (.const (.slice none 0 0))) 25]) (
 .seq (
 .ops [sop nb 1 (.buildSlice 26 3 #[(0, qi 0), (1, qi 3), (2, qi 4)]) 26,
 sop nb 2 (.buildSlice 26 3 #[(0, qi 1), (1, qi 3), (2, qi 4)]) 26,
 sop nb 3 (.buildSlice 26 3 #[(0, qi 2), (1, qi 3), (2, qi 4)]) 26,
 sop nb 4 (.buildSlice 26 3 #[(0, qi 0), (1, qi 4), (2, qi 3)]) 26,
 sop nb 5 (.buildSlice 25 4 #[(0, qt 1), (1, qt 2), (2, qt 3), (3, qt 4)]) 25,
 qsg nb 0 5 25]) (
 .ret))
@[go_sem] theorem rs58 : Go.Proofs.Try.f58.results.toList = [.tmp 0] := by kernel_rfl
theorem k58 (nb : Nat) : sk nb Go.Proofs.Try.f58.ntmps (Go.Proofs.Try.f58.body.getD .skip) = some (c58 nb) := by kernel_rfl
theorem w58 {a : List Arg} {r : RV} (h : W Q (c58 0) [] ⟨ρ0 (a.map fun a => a.m.lv), h0⟩ (retG Q Go.Proofs.Try.f58.results.toList (retF r))) (l : Nat.ble a.length Go.Proofs.Try.f58.ntmps = true := by kernel_rfl) : Fn Q 58 a r := fn_intro Go.Proofs.Try.func58 rfl (by kernel_rfl) mix (k58 0) (Nat.le_of_ble_eq_true l) h
noncomputable def c59 (nb : Nat) : SC :=
 .seq (
 .ops [sop nb 0 (.assign (.const (.slice none 0 0))) 25]) (
 .seq (
 .ops [sop nb 1 (.buildSlice 26 5 #[(0, qi 1), (1, qi 0), (2, qi 1), (3, qi 1), (4, qi 1)]) 26,
 sop nb 2 (.buildSlice 26 5 #[(0, qi 0), (1, qi 1), (2, qi 1), (3, qi 0), (4, qi 2)]) 26,
 sop nb 3 (.buildSlice 26 5 #[(0, qi 2), (1, qi 0), (2, qi 0), (3, qi 1), (4, qi 0)]) 26,
 sop nb 4 (.buildSlice 25 3 #[(0, qt 1), (1, qt 2), (2, qt 3)]) 25,
 qsg nb 0 4 25]) (
 .ret))
@[go_sem] theorem rs59 : Go.Proofs.Try.f59.results.toList = [.tmp 0] := by kernel_rfl
theorem k59 (nb : Nat) : sk nb Go.Proofs.Try.f59.ntmps (Go.Proofs.Try.f59.body.getD .skip) = some (c59 nb) := by kernel_rfl
theorem w59 {a : List Arg} {r : RV} (h : W Q (c59 0) [] ⟨ρ0 (a.map fun a => a.m.lv), h0⟩ (retG Q Go.Proofs.Try.f59.results.toList (retF r))) (l : Nat.ble a.length Go.Proofs.Try.f59.ntmps = true := by kernel_rfl) : Fn Q 59 a r := fn_intro Go.Proofs.Try.func59 rfl (by kernel_rfl) mix (k59 0) (Nat.le_of_ble_eq_true l) h
noncomputable def c60 (nb : Nat) : SC :=
 .seq (
 .ops [sop nb 4 (.box 24 (qt 0)) 0,
 sop nb 8 (.alloc 110) 0,
 sop nb 9 (.assign (qi 0)) 34]) (
 .seq (
 .ops [qld nb 17 24 4,
 qcl nb 18 82 #[qt 17] #[24] 117,
 qmv nb 16 18 117,
 qex nb 19 16 0 108,
 qex nb 20 16 1 34,
 qsg nb 10 19 108,
 qsg nb 9 20 34]) (
 .seq (
 .block 0 (
  .seq (
  .ops [qmv nb 22 9 34,
 qbo nb 23 .neq 34 22 (qi 0) 34 4,
 qsg nb 21 23 4]) (
  .cond (qt 21) (
   .seq (
   .ops [qld nb 24 110 8,
 qmv nb 25 9 34,
 nop (.store 110 (qt 8) (qt 24)) 0,
 qsg nb 9 25 34]) (
   .ret)) (
   .seq (
   .ops [qmv nb 27 1 25,
 qln nb 28 #[qt 27] #[25] 3,
 qbo nb 29 .gtr 3 28 (qi 5) 3 4,
 qsg nb 26 29 4]) (
   .cond (qt 26) (
    .seq (
    .ops [qld nb 30 110 8,
 nop (.store 110 (qt 8) (qt 30)) 0,
 sop nb 9 (.assign (qi 5)) 34]) (
    .ret)) (
    .seq (
    .seq (
    .ops [qmv nb 32 10 108,
 qmv nb 33 1 25,
 qcl nb 34 85 #[qt 32, qt 33] #[108, 25] 4,
 sop nb 35 (.unOp .not 4 (qt 34)) 4,
 qsg nb 31 35 4]) (
    .cond (qt 31) (
     .skip) (
     .ops [qmv nb 36 10 108,
 qmv nb 37 2 26,
 sop nb 38 (.buildSlice 26 1 #[(0, (qi (-1)))]) 26,
 qcl nb 39 86 #[qt 36, qt 37, qt 38] #[108, 26, 26] 4,
 sop nb 40 (.unOp .not 4 (qt 39)) 4,
 qsg nb 31 40 4]))) (
    .cond (qt 31) (
     .seq (
     .ops [qld nb 41 110 8,
 nop (.store 110 (qt 8) (qt 41)) 0,
 sop nb 9 (.assign (qi 4)) 34]) (
     .ret)) (
     .seq (
     .ops [qmv nb 43 3 3,
 sop nb 44 (.buildSlice 26 1 #[(0, qt 43)]) 26,
 qcl nb 45 87 #[qi 0, qi 12, qt 44] #[3, 3, 26] 4,
 sop nb 46 (.unOp .not 4 (qt 45)) 4,
 qsg nb 42 46 4]) (
     .cond (qt 42) (
      .seq (
      .ops [qld nb 47 110 8,
 nop (.store 110 (qt 8) (qt 47)) 0,
 sop nb 9 (.assign (qi 3)) 34]) (
      .ret)) (
      .skip)))))))))) (
 .seq (
 .ops [qmv nb 48 10 108,
 qmv nb 49 1 25,
 qmv nb 50 2 26,
 qmv nb 51 3 3,
 sop nb 52 (.build 110 #[(0, qt 48), (1, qt 49), (2, qt 50), (3, qt 51), (4, (.const (.slice none 0 0)))]) 110,
 nop (.store 110 (qt 8) (qt 52)) 0]) (
 .seq (
 .seq (
 .ops [qmv nb 53 1 25,
 qln nb 54 #[qt 53] #[25] 3,
 sop nb 55 (.move (qi 0)) 3]) (
 .block 1 (
  .loop (
   .seq (
   .ops [qbo nb 56 .lss 3 55 (qt 54) 3 0]) (
   .seq (
   .cond (qt 56) (
    .skip) (
    .exit 1)) (
   .seq (
   .block 2 (
    .seq (
    .ops [qmv nb 57 55 3,
 qix nb 58 25 53 55 0,
 qld nb 59 26 58,
 qsg nb 11 57 3,
 qsg nb 12 59 26]) (
    .seq (
    .seq (
    .ops [qmv nb 60 12 26,
 qln nb 61 #[qt 60] #[26] 3,
 qmv nb 62 2 26,
 qln nb 63 #[qt 62] #[26] 3,
 qbo nb 64 .neq 3 61 (qt 63) 3 4]) (
    .cond (qt 64) (
     .exit 2) (
     .skip))) (
    .seq (
    .ops [qmv nb 66 10 108,
 qmv nb 67 12 26,
 qmv nb 68 2 26,
 qcl nb 69 81 #[qt 66, qt 67, qt 68] #[108, 26, 26] 143,
 qmv nb 65 69 143,
 qex nb 70 65 0 82,
 qex nb 71 65 1 3,
 qex nb 72 65 2 4,
 qsg nb 13 70 82,
 qsg nb 14 71 3,
 qsg nb 15 72 4]) (
    .seq (
    .ops [qmv nb 73 15 4,
 qmv nb 74 73 4,
 gop nb 75 (.move (qt 14)) 3 74 true,
 gop nb 76 (.move (qt 3)) 3 74 true,
 gop nb 77 (.binOp .leq 3 (qt 75) (qt 76) 3) 4 74 true,
 sop nb 78 (.pick (qt 74) (qt 77) (.const (.bool false))) 4]) (
    .cond (qt 78) (
     .ops [sop nb 79 (.fieldAddr 110 (qt 8) 4) 0,
 qld nb 80 26 79,
 qmv nb 81 11 3,
 sop nb 82 (.buildSlice 26 1 #[(0, qt 81)]) 26,
 sop nb 83 (.call { callee := .builtin .append, args := #[qt 80, qt 82], argTypes := #[26, 26] }) 26,
 sop nb 84 (.fieldAddr 110 (qt 8) 4) 0,
 nop (.store 26 (qt 84) (qt 83)) 0]) (
     .skip))))))) (
   .ops [qbo nb 85 .add 3 55 (qi 1) 3 3,
 qmv nb 55 85 3]))))))) (
 .seq (
 .seq (
 .ops [sop nb 86 (.fieldAddr 110 (qt 8) 4) 0,
 qld nb 87 26 86,
 sop nb 88 (.binOp .eql 26 (qt 87) (.const (.slice none 0 0)) 26) 4]) (
 .cond (qt 88) (
  .seq (
  .ops [qld nb 89 110 8,
 nop (.store 110 (qt 8) (qt 89)) 0,
 sop nb 9 (.assign (qi 7)) 34]) (
  .ret)) (
  .skip))) (
 .seq (
 .ops [qld nb 90 110 8,
 nop (.store 110 (qt 8) (qt 90)) 0,
 sop nb 9 (.assign (qi 0)) 34]) (
 .ret)))))))
@[go_sem] theorem rs60 : Go.Proofs.Try.f60.results.toList = [.cell 8 110, .tmp 9] := by kernel_rfl
theorem k60 (nb : Nat) : sk nb Go.Proofs.Try.f60.ntmps (Go.Proofs.Try.f60.body.getD .skip) = some (c60 nb) := by kernel_rfl
theorem w60 {a : List Arg} {r : RV} (h : W Q (c60 0) [] ⟨ρ0 (a.map fun a => a.m.lv), h0⟩ (retG Q Go.Proofs.Try.f60.results.toList (retF r))) (l : Nat.ble a.length Go.Proofs.Try.f60.ntmps = true := by kernel_rfl) : Fn Q 60 a r := fn_intro Go.Proofs.Try.func60 rfl (by kernel_rfl) mix (k60 0) (Nat.le_of_ble_eq_true l) h
noncomputable def c61 (nb : Nat) : SC :=
 .seq (
 .ops [sop nb 2 (.box 110 (qt 0)) 0,
 sop nb 4 (.assign (qi 0)) 3]) (
 .seq (
 .ops [sop nb 11 (.makeMap 150 none) 150,
 qsg nb 5 11 150]) (
 .seq (
 .seq (
 .ops [sop nb 12 (.fieldAddr 110 (qt 2) 4) 0,
 qld nb 13 26 12,
 qln nb 14 #[qt 13] #[26] 3,
 sop nb 15 (.move (qi 0)) 3]) (
 .block 0 (
  .loop (
   .seq (
   .ops [qbo nb 16 .lss 3 15 (qt 14) 3 0]) (
   .seq (
   .cond (qt 16) (
    .skip) (
    .exit 0)) (
   .seq (
   .block 1 (
    .seq (
    .ops [qix nb 17 26 13 15 0,
 qld nb 18 3 17,
 qsg nb 7 18 3]) (
    .seq (
    .ops [qld nb 19 110 2,
 sop nb 20 (.fieldAddr 110 (qt 2) 1) 0,
 qld nb 21 25 20,
 qmv nb 22 7 3,
 qix nb 23 25 21 22 0,
 qld nb 24 26 23,
 qmv nb 25 1 3,
 qcl nb 26 88 #[qt 19, qt 24, qt 25] #[110, 26, 3] 151,
 sop nb 27 (.range 151 (qt 26)) 0]) (
    .block 2 (
     .loop (
      .seq (
      .ops [sop nb 28 (.next (qt 27) false) 0,
 qex nb 29 28 0 4]) (
      .seq (
      .cond (qt 29) (
       .skip) (
       .exit 2)) (
      .block 3 (
       .seq (
       .ops [sop nb 30 (.entry (qt 27)) 0,
 qex nb 31 30 0 3,
 qsg nb 8 31 3]) (
       .ops [qmv nb 32 5 150,
 qmv nb 33 8 3,
 sop nb 34 (.lookup 150 (qt 32) (qt 33) false) 3,
 qbo nb 35 .add 3 34 (qi 1) 3 3,
 nop (.mapUpdate 150 (qt 32) (qt 33) (qt 35)) 0])))))))))) (
   .ops [qbo nb 36 .add 3 15 (qi 1) 3 3,
 qmv nb 15 36 3]))))))) (
 .seq (
 .seq (
 .ops [qmv nb 37 5 150,
 sop nb 38 (.range 150 (qt 37)) 0]) (
 .block 4 (
  .loop (
   .seq (
   .ops [sop nb 39 (.next (qt 38) false) 0,
 qex nb 40 39 0 4]) (
   .seq (
   .cond (qt 40) (
    .skip) (
    .exit 4)) (
   .block 5 (
    .seq (
    .ops [sop nb 41 (.entry (qt 38)) 0,
 qex nb 42 41 1 3,
 qsg nb 10 42 3]) (
    .ops [qmv nb 43 4 3,
 qmv nb 44 10 3,
 sop nb 45 (.call { callee := .builtin .max, args := #[qt 43, qt 44], argTypes := #[3, 3] }) 3,
 qsg nb 4 45 3])))))))) (
 .seq (
 .ops [qmv nb 46 4 3,
 qsg nb 4 46 3]) (
 .ret)))))
@[go_sem] theorem rs61 : Go.Proofs.Try.f61.results.toList = [.tmp 4] := by kernel_rfl
theorem k61 (nb : Nat) : sk nb Go.Proofs.Try.f61.ntmps (Go.Proofs.Try.f61.body.getD .skip) = some (c61 nb) := by kernel_rfl
theorem w61 {a : List Arg} {r : RV} (h : W Q (c61 0) [] ⟨ρ0 (a.map fun a => a.m.lv), h0⟩ (retG Q Go.Proofs.Try.f61.results.toList (retF r))) (l : Nat.ble a.length Go.Proofs.Try.f61.ntmps = true := by kernel_rfl) : Fn Q 61 a r := fn_intro Go.Proofs.Try.func61 rfl (by kernel_rfl) mix (k61 0) (Nat.le_of_ble_eq_true l) h
noncomputable def c62 (nb : Nat) : SC :=
 .seq (
 .ops [sop nb 4 (.assign (qi 0)) 3]) (
 .seq (
 .seq (
 .ops [sop nb 5 (.assign (qi 0)) 3]) (
 .block 0 (
  .loop (
   .seq (
   .seq (
   .ops [qmv nb 6 5 3,
 qmv nb 7 0 26,
 qln nb 8 #[qt 7] #[26] 3,
 qbo nb 9 .lss 3 6 (qt 8) 3 4,
 qmv nb 10 9 4,
 gop nb 11 (.move (qt 5)) 3 10 true,
 gop nb 12 (.move (qt 1)) 26 10 true,
 gop nb 13 (.call { callee := .builtin .len, args := #[qt 12], argTypes := #[26] }) 3 10 true,
 gop nb 14 (.binOp .lss 3 (qt 11) (qt 13) 3) 4 10 true,
 sop nb 15 (.pick (qt 10) (qt 14) (.const (.bool false))) 4]) (
   .cond (qt 15) (
    .skip) (
    .exit 0))) (
   .seq (
   .block 1 (
    .seq (
    .ops [qmv nb 18 0 26,
 qmv nb 19 5 3,
 qix nb 20 26 18 19 0,
 qld nb 21 3 20,
 qmv nb 22 1 26,
 qmv nb 23 5 3,
 qix nb 24 26 22 23 0,
 qld nb 25 3 24,
 qbo nb 26 .neq 3 21 (qt 25) 3 4]) (
    .cond (qt 26) (
     .seq (
     .ops [qmv nb 27 0 26,
 qmv nb 28 5 3,
 qix nb 29 26 27 28 0,
 qld nb 30 3 29,
 qmv nb 31 1 26,
 qmv nb 32 5 3,
 qix nb 33 26 31 32 0,
 qld nb 34 3 33,
 qbo nb 35 .sub 3 30 (qt 34) 3 3,
 qsg nb 4 35 3]) (
     .ret)) (
     .skip)))) (
   .ops [qmv nb 16 5 3,
 qbo nb 17 .add 3 16 (qi 1) 3 3,
 qsg nb 5 17 3])))))) (
 .seq (
 .ops [qmv nb 36 0 26,
 qln nb 37 #[qt 36] #[26] 3,
 qmv nb 38 1 26,
 qln nb 39 #[qt 38] #[26] 3,
 qbo nb 40 .sub 3 37 (qt 39) 3 3,
 qsg nb 4 40 3]) (
 .ret)))
@[go_sem] theorem rs62 : Go.Proofs.Try.f62.results.toList = [.tmp 4] := by kernel_rfl
theorem k62 (nb : Nat) : sk nb Go.Proofs.Try.f62.ntmps (Go.Proofs.Try.f62.body.getD .skip) = some (c62 nb) := by kernel_rfl
theorem w62 {a : List Arg} {r : RV} (h : W Q (c62 0) [] ⟨ρ0 (a.map fun a => a.m.lv), h0⟩ (retG Q Go.Proofs.Try.f62.results.toList (retF r))) (l : Nat.ble a.length Go.Proofs.Try.f62.ntmps = true := by kernel_rfl) : Fn Q 62 a r := fn_intro Go.Proofs.Try.func62 rfl (by kernel_rfl) mix (k62 0) (Nat.le_of_ble_eq_true l) h
noncomputable def c64 (nb : Nat) : SC :=
 .seq (
 .ops [sop nb 3 (.box 24 (qt 0)) 0,
 sop nb 6 (.assign (.const (.pointer none))) 108,
 sop nb 7 (.assign (qi 0)) 34]) (
 .seq (
 .ops [qld nb 11 24 3,
 qcl nb 12 82 #[qt 11] #[24] 117,
 qmv nb 10 12 117,
 qex nb 13 10 0 108,
 qex nb 14 10 1 34,
 qsg nb 8 13 108,
 qsg nb 9 14 34]) (
 .seq (
 .block 0 (
  .seq (
  .ops [qmv nb 16 9 34,
 qbo nb 17 .neq 34 16 (qi 0) 34 4,
 qsg nb 15 17 4]) (
  .cond (qt 15) (
   .seq (
   .ops [qmv nb 18 9 34,
 sop nb 6 (.assign (.const (.pointer none))) 108,
 qsg nb 7 18 34]) (
   .ret)) (
   .seq (
   .ops [qmv nb 20 2 25,
 qln nb 21 #[qt 20] #[25] 3,
 qbo nb 22 .gtr 3 21 (qi 5) 3 4,
 qsg nb 19 22 4]) (
   .cond (qt 19) (
    .seq (
    .ops [sop nb 6 (.assign (.const (.pointer none))) 108,
 sop nb 7 (.assign (qi 5)) 34]) (
    .ret)) (
    .seq (
    .seq (
    .ops [qmv nb 24 8 108,
 qmv nb 25 1 26,
 qcl nb 26 89 #[qt 24, qt 25, qi 5] #[108, 26, 3] 4,
 sop nb 27 (.unOp .not 4 (qt 26)) 4,
 qsg nb 23 27 4]) (
    .cond (qt 23) (
     .skip) (
     .ops [qmv nb 28 8 108,
 qmv nb 29 2 25,
 qcl nb 30 85 #[qt 28, qt 29] #[108, 25] 4,
 sop nb 31 (.unOp .not 4 (qt 30)) 4,
 qsg nb 23 31 4]))) (
    .cond (qt 23) (
     .seq (
     .ops [sop nb 6 (.assign (.const (.pointer none))) 108,
 sop nb 7 (.assign (qi 4)) 34]) (
     .ret)) (
     .skip)))))))) (
 .seq (
 .ops [qmv nb 32 8 108,
 qsg nb 6 32 108,
 sop nb 7 (.assign (qi 0)) 34]) (
 .ret))))
@[go_sem] theorem rs64 : Go.Proofs.Try.f64.results.toList = [.tmp 6, .tmp 7] := by kernel_rfl
theorem k64 (nb : Nat) : sk nb Go.Proofs.Try.f64.ntmps (Go.Proofs.Try.f64.body.getD .skip) = some (c64 nb) := by kernel_rfl
theorem w64 {a : List Arg} {r : RV} (h : W Q (c64 0) [] ⟨ρ0 (a.map fun a => a.m.lv), h0⟩ (retG Q Go.Proofs.Try.f64.results.toList (retF r))) (l : Nat.ble a.length Go.Proofs.Try.f64.ntmps = true := by kernel_rfl) : Fn Q 64 a r := fn_intro Go.Proofs.Try.func64 rfl (by kernel_rfl) mix (k64 0) (Nat.le_of_ble_eq_true l) h
noncomputable def c65 (nb : Nat) : SC :=
 .seq (
 .ops [sop nb 6 (.assign (.const (.slice none 0 0))) 26]) (
 .seq (
 .ops [qmv nb 12 0 108,
 qmv nb 13 1 26,
 qcl nb 14 70 #[qt 12, qt 13] #[108, 26] 125,
 qmv nb 15 0 108,
 qmv nb 16 2 26,
 qcl nb 17 71 #[qt 15, qt 16] #[108, 26] 125,
 sop nb 7 (.alloc 125) 0,
 sop nb 8 (.alloc 125) 0,
 nop (.store 125 (qt 7) (qt 14)) 0,
 nop (.store 125 (qt 8) (qt 17)) 0]) (
 .seq (
 .seq (
 .ops [qmv nb 18 2 26,
 qln nb 19 #[qt 18] #[26] 3,
 sop nb 20 (.move (qi 0)) 3]) (
 .block 0 (
  .loop (
   .seq (
   .ops [qbo nb 21 .lss 3 20 (qt 19) 3 0]) (
   .seq (
   .cond (qt 21) (
    .skip) (
    .exit 0)) (
   .seq (
   .block 1 (
    .seq (
    .ops [qmv nb 22 20 3,
 qix nb 23 26 18 20 0,
 qld nb 24 3 23,
 qsg nb 9 22 3,
 qsg nb 10 24 3]) (
    .seq (
    .ops [qmv nb 25 0 108,
 qmv nb 26 10 3,
 qcl nb 27 67 #[qt 25, qt 26] #[108, 3] 3,
 qsg nb 11 27 3]) (
    .seq (
    .ops [qmv nb 28 11 3,
 qix nb 29 125 8 28 0,
 qld nb 30 3 29,
 qmv nb 31 11 3,
 qix nb 32 125 7 31 0,
 qld nb 33 3 32,
 qbo nb 34 .gtr 3 30 (qt 33) 3 4]) (
    .cond (qt 34) (
     .seq (
     .ops [qmv nb 35 6 26,
 qmv nb 36 9 3,
 sop nb 37 (.buildSlice 26 1 #[(0, qt 36)]) 26,
 sop nb 38 (.call { callee := .builtin .append, args := #[qt 35, qt 37], argTypes := #[26, 26] }) 26,
 qsg nb 6 38 26]) (
     .ops [qmv nb 39 11 3,
 qix nb 40 125 8 39 0,
 qld nb 41 3 40,
 qbo nb 42 .sub 3 41 (qi 1) 3 3,
 qix nb 43 125 8 39 0,
 nop (.store 3 (qt 43) (qt 42)) 0])) (
     .skip)))))) (
   .ops [qbo nb 44 .add 3 20 (qi 1) 3 3,
 qmv nb 20 44 3]))))))) (
 .seq (
 .ops [qmv nb 45 6 26,
 qsg nb 6 45 26]) (
 .ret))))
@[go_sem] theorem rs65 : Go.Proofs.Try.f65.results.toList = [.tmp 6] := by kernel_rfl
theorem k65 (nb : Nat) : sk nb Go.Proofs.Try.f65.ntmps (Go.Proofs.Try.f65.body.getD .skip) = some (c65 nb) := by kernel_rfl
theorem w65 {a : List Arg} {r : RV} (h : W Q (c65 0) [] ⟨ρ0 (a.map fun a => a.m.lv), h0⟩ (retG Q Go.Proofs.Try.f65.results.toList (retF r))) (l : Nat.ble a.length Go.Proofs.Try.f65.ntmps = true := by kernel_rfl) : Fn Q 65 a r := fn_intro Go.Proofs.Try.func65 rfl (by kernel_rfl) mix (k65 0) (Nat.le_of_ble_eq_true l) h
noncomputable def c66 (nb : Nat) : SC :=
 .seq (
 .ops [sop nb 2 (.assign (.const (.slice none 0 0))) 26]) (
 .seq (
 .seq (
 .ops [qmv nb 3 0 26,
 sop nb 4 (.binOp .eql 26 (qt 3) (.const (.slice none 0 0)) 26) 4]) (
 .cond (qt 4) (
  .seq (
  .ops [sop nb 2 (.assign (.const (.slice none 0 0))) 26]) (
  .ret)) (
  .skip))) (
 .seq (
 .ops [sop nb 5 (.buildSlice 26 0 #[]) 26,
 qmv nb 6 0 26,
 sop nb 7 (.call { callee := .builtin .append, args := #[qt 5, qt 6], argTypes := #[26, 26] }) 26,
 qsg nb 2 7 26]) (
 .ret)))
@[go_sem] theorem rs66 : Go.Proofs.Try.f66.results.toList = [.tmp 2] := by kernel_rfl
theorem k66 (nb : Nat) : sk nb Go.Proofs.Try.f66.ntmps (Go.Proofs.Try.f66.body.getD .skip) = some (c66 nb) := by kernel_rfl
theorem w66 {a : List Arg} {r : RV} (h : W Q (c66 0) [] ⟨ρ0 (a.map fun a => a.m.lv), h0⟩ (retG Q Go.Proofs.Try.f66.results.toList (retF r))) (l : Nat.ble a.length Go.Proofs.Try.f66.ntmps = true := by kernel_rfl) : Fn Q 66 a r := fn_intro Go.Proofs.Try.func66 rfl (by kernel_rfl) mix (k66 0) (Nat.le_of_ble_eq_true l) h
noncomputable def c67 (nb : Nat) : SC :=
 .seq (
 .ops [sop nb 4 (.assign (qi 0)) 3]) (
 .seq (
 .seq (
 .ops [qmv nb 6 0 108,
 qmv nb 7 1 3,
 sop nb 8 (.nilCheck (qt 6)) 0,
 sop nb 9 (.fieldAddr 123 (qt 8) 1) 0,
 qix nb 10 120 9 7 0,
 qld nb 11 3 10,
 qsg nb 5 11 3]) (
 .seq (
 .ops [qmv nb 12 5 3,
 qbo nb 13 .neq 3 12 (qi (-1)) 3 4]) (
 .cond (qt 13) (
  .seq (
  .ops [qmv nb 14 1 3,
 qmv nb 15 5 3,
 sop nb 16 (.call { callee := .builtin .min, args := #[qt 14, qt 15], argTypes := #[3, 3] }) 3,
 qsg nb 4 16 3]) (
  .ret)) (
  .skip)))) (
 .seq (
 .ops [qmv nb 17 1 3,
 qsg nb 4 17 3]) (
 .ret)))
@[go_sem] theorem rs67 : Go.Proofs.Try.f67.results.toList = [.tmp 4] := by kernel_rfl
theorem k67 (nb : Nat) : sk nb Go.Proofs.Try.f67.ntmps (Go.Proofs.Try.f67.body.getD .skip) = some (c67 nb) := by kernel_rfl
theorem w67 {a : List Arg} {r : RV} (h : W Q (c67 0) [] ⟨ρ0 (a.map fun a => a.m.lv), h0⟩ (retG Q Go.Proofs.Try.f67.results.toList (retF r))) (l : Nat.ble a.length Go.Proofs.Try.f67.ntmps = true := by kernel_rfl) : Fn Q 67 a r := fn_intro Go.Proofs.Try.func67 rfl (by kernel_rfl) mix (k67 0) (Nat.le_of_ble_eq_true l) h
noncomputable def c70 (nb : Nat) : SC :=
 .seq (
 .ops [sop nb 4 (.alloc 125) 0]) (
 .seq (
 .seq (
 .ops [qmv nb 7 1 26,
 qln nb 8 #[qt 7] #[26] 3,
 sop nb 9 (.move (qi 0)) 3]) (
 .block 0 (
  .loop (
   .seq (
   .ops [qbo nb 10 .lss 3 9 (qt 8) 3 0]) (
   .seq (
   .cond (qt 10) (
    .skip) (
    .exit 0)) (
   .seq (
   .block 1 (
    .seq (
    .ops [qmv nb 11 9 3,
 qix nb 12 26 7 9 0,
 qld nb 13 3 12,
 qsg nb 5 11 3,
 qsg nb 6 13 3]) (
    .ops [qmv nb 14 0 108,
 qmv nb 15 5 3,
 qcl nb 16 67 #[qt 14, qt 15] #[108, 3] 3,
 qix nb 17 125 4 16 0,
 qld nb 18 3 17,
 qmv nb 19 6 3,
 qbo nb 20 .add 3 18 (qt 19) 3 3,
 qix nb 21 125 4 16 0,
 nop (.store 3 (qt 21) (qt 20)) 0]))) (
   .ops [qbo nb 22 .add 3 9 (qi 1) 3 3,
 qmv nb 9 22 3]))))))) (
 .seq (
 .ops [qld nb 23 125 4,
 nop (.store 125 (qt 4) (qt 23)) 0]) (
 .ret)))
@[go_sem] theorem rs70 : Go.Proofs.Try.f70.results.toList = [.cell 4 125] := by kernel_rfl
theorem k70 (nb : Nat) : sk nb Go.Proofs.Try.f70.ntmps (Go.Proofs.Try.f70.body.getD .skip) = some (c70 nb) := by kernel_rfl
theorem w70 {a : List Arg} {r : RV} (h : W Q (c70 0) [] ⟨ρ0 (a.map fun a => a.m.lv), h0⟩ (retG Q Go.Proofs.Try.f70.results.toList (retF r))) (l : Nat.ble a.length Go.Proofs.Try.f70.ntmps = true := by kernel_rfl) : Fn Q 70 a r := fn_intro Go.Proofs.Try.func70 rfl (by kernel_rfl) mix (k70 0) (Nat.le_of_ble_eq_true l) h
noncomputable def c71 (nb : Nat) : SC :=
 .seq (
 .ops [sop nb 4 (.alloc 125) 0]) (
 .seq (
 .seq (
 .ops [qmv nb 7 1 26,
 qln nb 8 #[qt 7] #[26] 3,
 sop nb 9 (.move (qi 0)) 3]) (
 .block 0 (
  .loop (
   .seq (
   .ops [qbo nb 10 .lss 3 9 (qt 8) 3 0]) (
   .seq (
   .cond (qt 10) (
    .skip) (
    .exit 0)) (
   .seq (
   .block 1 (
    .seq (
    .ops [qix nb 11 26 7 9 0,
 qld nb 12 3 11,
 qsg nb 6 12 3]) (
    .ops [qmv nb 13 0 108,
 qmv nb 14 6 3,
 qcl nb 15 67 #[qt 13, qt 14] #[108, 3] 3,
 qix nb 16 125 4 15 0,
 qld nb 17 3 16,
 qbo nb 18 .add 3 17 (qi 1) 3 3,
 qix nb 19 125 4 15 0,
 nop (.store 3 (qt 19) (qt 18)) 0]))) (
   .ops [qbo nb 20 .add 3 9 (qi 1) 3 3,
 qmv nb 9 20 3]))))))) (
 .seq (
 .ops [qld nb 21 125 4,
 nop (.store 125 (qt 4) (qt 21)) 0]) (
 .ret)))
@[go_sem] theorem rs71 : Go.Proofs.Try.f71.results.toList = [.cell 4 125] := by kernel_rfl
theorem k71 (nb : Nat) : sk nb Go.Proofs.Try.f71.ntmps (Go.Proofs.Try.f71.body.getD .skip) = some (c71 nb) := by kernel_rfl
theorem w71 {a : List Arg} {r : RV} (h : W Q (c71 0) [] ⟨ρ0 (a.map fun a => a.m.lv), h0⟩ (retG Q Go.Proofs.Try.f71.results.toList (retF r))) (l : Nat.ble a.length Go.Proofs.Try.f71.ntmps = true := by kernel_rfl) : Fn Q 71 a r := fn_intro Go.Proofs.Try.func71 rfl (by kernel_rfl) mix (k71 0) (Nat.le_of_ble_eq_true l) h
noncomputable def c73 (nb : Nat) : SC :=
 .seq (
 .ops [sop nb 4 (.box 24 (qt 0)) 0,
 sop nb 8 (.alloc 129) 0,
 sop nb 9 (.assign (qi 0)) 34]) (
 .seq (
 .ops [qld nb 12 24 4,
 qcl nb 13 82 #[qt 12] #[24] 117,
 qmv nb 11 13 117,
 qex nb 14 11 0 108,
 qex nb 15 11 1 34,
 sop nb 10 (.alloc 108) 0,
 nop (.store 108 (qt 10) (qt 14)) 0,
 qsg nb 9 15 34]) (
 .seq (
 .block 0 (
  .seq (
  .ops [qmv nb 17 9 34,
 qbo nb 18 .neq 34 17 (qi 0) 34 4,
 qsg nb 16 18 4]) (
  .cond (qt 16) (
   .seq (
   .ops [qld nb 19 129 8,
 qmv nb 20 9 34,
 nop (.store 129 (qt 8) (qt 19)) 0,
 qsg nb 9 20 34]) (
   .ret)) (
   .seq (
   .ops [qmv nb 22 1 25,
 qln nb 23 #[qt 22] #[25] 3,
 qbo nb 24 .gtr 3 23 (qi 4) 3 4,
 qsg nb 21 24 4]) (
   .cond (qt 21) (
    .seq (
    .ops [qld nb 25 129 8,
 nop (.store 129 (qt 8) (qt 25)) 0,
 sop nb 9 (.assign (qi 5)) 34]) (
    .ret)) (
    .seq (
    .seq (
    .ops [qmv nb 27 1 25,
 sop nb 28 (.makeFunc (.func 91) #[] #[qt 10]) 154,
 qcl nb 29 90 #[qt 27, qt 28] #[25, 154] 4,
 qsg nb 26 29 4]) (
    .cond (qt 26) (
     .skip) (
     .ops [qld nb 30 108 10,
 qmv nb 31 2 26,
 qcl nb 32 89 #[qt 30, qt 31, qi 20] #[108, 26, 3] 4,
 sop nb 33 (.unOp .not 4 (qt 32)) 4,
 qsg nb 26 33 4]))) (
    .cond (qt 26) (
     .seq (
     .ops [qld nb 34 129 8,
 nop (.store 129 (qt 8) (qt 34)) 0,
 sop nb 9 (.assign (qi 4)) 34]) (
     .ret)) (
     .seq (
     .ops [qmv nb 36 3 3,
 sop nb 37 (.buildSlice 26 1 #[(0, qt 36)]) 26,
 qcl nb 38 87 #[qi 0, qi 20, qt 37] #[3, 3, 26] 4,
 sop nb 39 (.unOp .not 4 (qt 38)) 4,
 qsg nb 35 39 4]) (
     .cond (qt 35) (
      .seq (
      .ops [qld nb 40 129 8,
 nop (.store 129 (qt 8) (qt 40)) 0,
 sop nb 9 (.assign (qi 3)) 34]) (
      .ret)) (
      .skip)))))))))) (
 .seq (
 .ops [qld nb 41 108 10,
 qmv nb 42 1 25,
 qmv nb 43 2 26,
 qmv nb 44 3 3,
 sop nb 45 (.build 129 #[(0, qt 41), (1, qt 42), (2, qt 43), (3, qt 44)]) 129,
 nop (.store 129 (qt 8) (qt 45)) 0,
 sop nb 9 (.assign (qi 0)) 34]) (
 .ret))))
@[go_sem] theorem rs73 : Go.Proofs.Try.f73.results.toList = [.cell 8 129, .tmp 9] := by kernel_rfl
theorem k73 (nb : Nat) : sk nb Go.Proofs.Try.f73.ntmps (Go.Proofs.Try.f73.body.getD .skip) = some (c73 nb) := by kernel_rfl
theorem w73 {a : List Arg} {r : RV} (h : W Q (c73 0) [] ⟨ρ0 (a.map fun a => a.m.lv), h0⟩ (retG Q Go.Proofs.Try.f73.results.toList (retF r))) (l : Nat.ble a.length Go.Proofs.Try.f73.ntmps = true := by kernel_rfl) : Fn Q 73 a r := fn_intro Go.Proofs.Try.func73 rfl (by kernel_rfl) mix (k73 0) (Nat.le_of_ble_eq_true l) h
noncomputable def c74 (nb : Nat) : SC :=
 .seq (
 .ops [sop nb 2 (.assign (.const (.slice none 0 0))) 25]) (
 .seq (
 .ops [qmv nb 3 0 155,
 qcl nb 4 92 #[(.const (.slice none 0 0)), qt 3] #[25, 155] 25,
 qsg nb 2 4 25]) (
 .ret))
@[go_sem] theorem rs74 : Go.Proofs.Try.f74.results.toList = [.tmp 2] := by kernel_rfl
theorem k74 (nb : Nat) : sk nb Go.Proofs.Try.f74.ntmps (Go.Proofs.Try.f74.body.getD .skip) = some (c74 nb) := by kernel_rfl
theorem w74 {a : List Arg} {r : RV} (h : W Q (c74 0) [] ⟨ρ0 (a.map fun a => a.m.lv), h0⟩ (retG Q Go.Proofs.Try.f74.results.toList (retF r))) (l : Nat.ble a.length Go.Proofs.Try.f74.ntmps = true := by kernel_rfl) : Fn Q 74 a r := fn_intro Go.Proofs.Try.func74 rfl (by kernel_rfl) mix (k74 0) (Nat.le_of_ble_eq_true l) h
noncomputable def c75 (nb : Nat) : SC :=
 .seq (
 .ops [sop nb 2 (.box 129 (qt 0)) 0,
 sop nb 3 (.box 154 (qt 1)) 0]) (
 .seq (
 .ops [sop nb 4 (.alloc 157) 0]) (
 .seq (
 .ops [sop nb 5 (.makeFunc (.func 93) #[] #[qt 2, qt 3, qt 4]) 157,
 nop (.store 157 (qt 4) (qt 5)) 0]) (
 .opsD [qld nb 6 157 4,
 sop nb 7 (.fieldAddr 129 (qt 2) 0) 0,
 qld nb 8 108 7,
 sop nb 9 (.nilCheck (qt 8)) 0,
 sop nb 10 (.fieldAddr 123 (qt 9) 0) 0,
 sop nb 11 (.fieldAddr 24 (qt 10) 0) 0,
 qld nb 12 3 11,
 sop nb 13 (.makeSlice 26 (qt 12) (qt 12)) 26,
 sop nb 14 (.call { callee := .value (qt 6), args := #[(.const (.slice none 0 0)), qt 13, qi 0], argTypes := #[26, 26, 3] }) 4] [(0, 7)])))
@[go_sem] theorem rs75 : Go.Proofs.Try.f75.results.toList = [] := by kernel_rfl
theorem k75 (nb : Nat) : sk nb Go.Proofs.Try.f75.ntmps (Go.Proofs.Try.f75.body.getD .skip) = some (c75 nb) := by kernel_rfl
noncomputable def c78 (nb : Nat) : SC :=
 .seq (
 .ops [sop nb 3 (.box 24 (qt 0)) 0,
 sop nb 6 (.assign (.const (.pointer none))) 108,
 sop nb 7 (.assign (qi 0)) 34]) (
 .seq (
 .ops [qld nb 11 24 3,
 qcl nb 12 82 #[qt 11] #[24] 117,
 qmv nb 10 12 117,
 qex nb 13 10 0 108,
 qex nb 14 10 1 34,
 qsg nb 8 13 108,
 qsg nb 9 14 34]) (
 .seq (
 .seq (
 .ops [qmv nb 15 9 34,
 qbo nb 16 .eql 34 15 (qi 0) 34 4,
 qmv nb 17 16 4,
 gop nb 18 (.move (qt 8)) 108 17 true,
 gop nb 19 (.move (qt 1)) 26 17 true,
 gop nb 20 (.call { callee := .value (.func 86), args := #[qt 18, qt 19, (.const (.slice none 0 0))], argTypes := #[108, 26, 26] }) 4 17 true,
 gop nb 21 (.unOp .not 4 (qt 20)) 4 17 true,
 gop nb 22 (.move (qt 21)) 4 17 true,
 gop nb 23 (.move (qt 8)) 108 22 false,
 gop nb 24 (.move (qt 2)) 26 22 false,
 gop nb 25 (.buildSlice 26 1 #[(0, (qi (-1)))]) 26 22 false,
 gop nb 26 (.call { callee := .value (.func 86), args := #[qt 23, qt 24, qt 25], argTypes := #[108, 26, 26] }) 4 22 false,
 gop nb 27 (.unOp .not 4 (qt 26)) 4 22 false,
 gop nb 28 (.pick (qt 22) (.const (.bool true)) (qt 27)) 4 17 true,
 gop nb 29 (.move (qt 28)) 4 17 true,
 gop nb 30 (.move (qt 1)) 26 29 false,
 gop nb 31 (.call { callee := .builtin .len, args := #[qt 30], argTypes := #[26] }) 3 29 false,
 gop nb 32 (.move (qt 2)) 26 29 false,
 gop nb 33 (.call { callee := .builtin .len, args := #[qt 32], argTypes := #[26] }) 3 29 false,
 gop nb 34 (.binOp .neq 3 (qt 31) (qt 33) 3) 4 29 false,
 gop nb 35 (.pick (qt 29) (.const (.bool true)) (qt 34)) 4 17 true,
 sop nb 36 (.pick (qt 17) (qt 35) (.const (.bool false))) 4]) (
 .cond (qt 36) (
  .ops [sop nb 9 (.assign (qi 4)) 34]) (
  .skip))) (
 .seq (
 .ops [qmv nb 37 8 108,
 qmv nb 38 9 34,
 qsg nb 6 37 108,
 qsg nb 7 38 34]) (
 .ret))))
@[go_sem] theorem rs78 : Go.Proofs.Try.f78.results.toList = [.tmp 6, .tmp 7] := by kernel_rfl
theorem k78 (nb : Nat) : sk nb Go.Proofs.Try.f78.ntmps (Go.Proofs.Try.f78.body.getD .skip) = some (c78 nb) := by kernel_rfl
theorem w78 {a : List Arg} {r : RV} (h : W Q (c78 0) [] ⟨ρ0 (a.map fun a => a.m.lv), h0⟩ (retG Q Go.Proofs.Try.f78.results.toList (retF r))) (l : Nat.ble a.length Go.Proofs.Try.f78.ntmps = true := by kernel_rfl) : Fn Q 78 a r := fn_intro Go.Proofs.Try.func78 rfl (by kernel_rfl) mix (k78 0) (Nat.le_of_ble_eq_true l) h
noncomputable def c79 (nb : Nat) : SC :=
 .seq (
 .ops [sop nb 5 (.box 3 (qt 2)) 0,
 sop nb 6 (.alloc 138) 0]) (
 .seq (
 .seq (
 .ops [qmv nb 9 0 108,
 qmv nb 10 1 3,
 qcl nb 11 96 #[qt 9, qt 10] #[108, 3] 158]) (
 .block 0 (
  .rangeF (qt 11) [12, 13] (
   .seq (
   .ops [sop nb 7 (.alloc 141) 0,
 nop (.store 141 (qt 7) (qt 12)) 0]) (
   .ops [qsg nb 8 13 3])) (
   .block 1 (
    .seq (
    .ops [qmv nb 14 8 3,
 qld nb 15 3 5,
 qbo nb 16 .eql 3 14 (qt 15) 3 4]) (
    .cond (qt 16) (
     .ops [qld nb 17 138 6,
 qld nb 18 141 7,
 sop nb 19 (.buildSlice 138 1 #[(0, qt 18)]) 138,
 sop nb 20 (.call { callee := .builtin .append, args := #[qt 17, qt 19], argTypes := #[138, 138] }) 138,
 nop (.store 138 (qt 6) (qt 20)) 0]) (
     .skip))))))) (
 .seq (
 .ops [qld nb 21 138 6,
 nop (.store 138 (qt 6) (qt 21)) 0]) (
 .ret)))
@[go_sem] theorem rs79 : Go.Proofs.Try.f79.results.toList = [.cell 6 138] := by kernel_rfl
theorem k79 (nb : Nat) : sk nb Go.Proofs.Try.f79.ntmps (Go.Proofs.Try.f79.body.getD .skip) = some (c79 nb) := by kernel_rfl
theorem w79 {a : List Arg} {r : RV} (h : W Q (c79 0) [] ⟨ρ0 (a.map fun a => a.m.lv), h0⟩ (retG Q Go.Proofs.Try.f79.results.toList (retF r))) (l : Nat.ble a.length Go.Proofs.Try.f79.ntmps = true := by kernel_rfl) : Fn Q 79 a r := fn_intro Go.Proofs.Try.func79 rfl (by kernel_rfl) mix (k79 0) (Nat.le_of_ble_eq_true l) h
noncomputable def c80 (nb : Nat) : SC :=
 .seq (
 .ops [sop nb 2 (.assign (.const (.slice none 0 0))) 82]) (
 .seq (
 .seq (
 .ops [qmv nb 6 0 82,
 qln nb 7 #[qt 6] #[82] 3,
 qbo nb 8 .lss 3 7 (qi 2) 3 4]) (
 .cond (qt 8) (
  .seq (
  .ops [qmv nb 9 0 82,
 qsg nb 2 9 82]) (
  .ret)) (
  .skip))) (
 .seq (
 .seq (
 .ops [sop nb 3 (.assign (qi 1)) 3]) (
 .block 0 (
  .loop (
   .seq (
   .seq (
   .ops [qmv nb 10 3 3,
 qmv nb 11 0 82,
 qln nb 12 #[qt 11] #[82] 3,
 qbo nb 13 .lss 3 10 (qt 12) 3 4]) (
   .cond (qt 13) (
    .skip) (
    .exit 0))) (
   .seq (
   .block 1 (
    .seq (
    .ops [qmv nb 16 0 82,
 qmv nb 17 3 3,
 qix nb 18 82 16 17 0,
 qld nb 19 76 18,
 qmv nb 20 0 82,
 qmv nb 21 3 3,
 qbo nb 22 .sub 3 21 (qi 1) 3 3,
 qix nb 23 82 20 22 0,
 qld nb 24 76 23,
 qbo nb 25 .eql 76 19 (qt 24) 76 4]) (
    .cond (qt 25) (
     .seq (
     .ops [qmv nb 26 0 82,
 qmv nb 27 3 3,
 sop nb 28 (.slice 82 (qt 26) (some (qt 27)) none none) 82,
 qsg nb 4 28 82]) (
     .seq (
     .seq (
     .ops [sop nb 5 (.assign (qi 1)) 3]) (
     .block 2 (
      .loop (
       .seq (
       .seq (
       .ops [qmv nb 29 5 3,
 qmv nb 30 4 82,
 qln nb 31 #[qt 30] #[82] 3,
 qbo nb 32 .lss 3 29 (qt 31) 3 4]) (
       .cond (qt 32) (
        .skip) (
        .exit 2))) (
       .seq (
       .block 3 (
        .seq (
        .ops [qmv nb 35 4 82,
 qmv nb 36 5 3,
 qix nb 37 82 35 36 0,
 qld nb 38 76 37,
 qmv nb 39 4 82,
 qmv nb 40 5 3,
 qbo nb 41 .sub 3 40 (qi 1) 3 3,
 qix nb 42 82 39 41 0,
 qld nb 43 76 42,
 qbo nb 44 .neq 76 38 (qt 43) 76 4]) (
        .cond (qt 44) (
         .seq (
         .ops [qmv nb 45 0 82,
 qmv nb 46 3 3,
 qmv nb 47 4 82,
 qmv nb 48 5 3,
 qix nb 49 82 47 48 0,
 qld nb 50 76 49,
 qix nb 51 82 45 46 0,
 nop (.store 76 (qt 51) (qt 50)) 0]) (
         .ops [qmv nb 52 3 3,
 qbo nb 53 .add 3 52 (qi 1) 3 3,
 qsg nb 3 53 3])) (
         .skip)))) (
       .ops [qmv nb 33 5 3,
 qbo nb 34 .add 3 33 (qi 1) 3 3,
 qsg nb 5 34 3])))))) (
     .seq (
     .ops [qmv nb 54 0 82,
 qmv nb 55 3 3,
 sop nb 56 (.slice 82 (qt 54) (some (qt 55)) none none) 82,
 nop (.call { callee := .builtin .clear, args := #[qt 56], argTypes := #[82] }) 0]) (
     .seq (
     .ops [qmv nb 57 0 82,
 qmv nb 58 3 3,
 sop nb 59 (.slice 82 (qt 57) none (some (qt 58)) none) 82,
 qsg nb 2 59 82]) (
     .ret))))) (
     .skip)))) (
   .ops [qmv nb 14 3 3,
 qbo nb 15 .add 3 14 (qi 1) 3 3,
 qsg nb 3 15 3])))))) (
 .seq (
 .ops [qmv nb 60 0 82,
 qsg nb 2 60 82]) (
 .ret))))
@[go_sem] theorem rs80 : Go.Proofs.Try.f80.results.toList = [.tmp 2] := by kernel_rfl
theorem en80 : Enters Q 80 := enters_of Go.Proofs.Try.func80 rfl (by kernel_rfl)
theorem k80 (nb : Nat) : sk nb Go.Proofs.Try.f80.ntmps (Go.Proofs.Try.f80.body.getD .skip) = some (c80 nb) := by kernel_rfl
noncomputable def c81 (nb : Nat) : SC :=
 .seq (
 .ops [sop nb 6 (.assign (.const (.slice none 0 0))) 82,
 sop nb 7 (.assign (qi 0)) 3,
 sop nb 8 (.assign (.const (.bool false))) 4]) (
 .seq (
 .seq (
 .ops [qmv nb 13 1 26,
 qln nb 14 #[qt 13] #[26] 3,
 sop nb 15 (.move (qi 0)) 3]) (
 .block 0 (
  .loop (
   .seq (
   .ops [qbo nb 16 .lss 3 15 (qt 14) 3 0]) (
   .seq (
   .cond (qt 16) (
    .skip) (
    .exit 0)) (
   .seq (
   .block 1 (
    .seq (
    .ops [qmv nb 17 15 3,
 qix nb 18 26 13 15 0,
 qld nb 19 3 18,
 qsg nb 9 17 3,
 qsg nb 10 19 3]) (
    .seq (
    .ops [qmv nb 20 0 108,
 qmv nb 21 10 3,
 qmv nb 22 2 26,
 qmv nb 23 9 3,
 qix nb 24 26 22 23 0,
 qld nb 25 3 24,
 qcl nb 26 79 #[qt 20, qt 21, qt 25] #[108, 3, 3] 138,
 qsg nb 11 26 138]) (
    .seq (
    .seq (
    .ops [qmv nb 27 11 138,
 qln nb 28 #[qt 27] #[138] 3,
 qbo nb 29 .eql 3 28 (qi 0) 3 4]) (
    .cond (qt 29) (
     .seq (
     .ops [sop nb 6 (.assign (.const (.slice none 0 0))) 82,
 sop nb 7 (.assign (qi 0)) 3,
 sop nb 8 (.assign (.const (.bool false))) 4]) (
     .ret)) (
     .skip))) (
    .seq (
    .ops [qmv nb 30 11 138,
 qcl nb 31 97 #[qt 30, (.func 98)] #[138, 162] 141,
 sop nb 12 (.alloc 141) 0,
 nop (.store 141 (qt 12) (qt 31)) 0]) (
    .opsD [qmv nb 32 6 82,
 sop nb 33 (.fieldAddr 141 (qt 12) 0) 0,
 qld nb 34 76 33,
 sop nb 35 (.buildSlice 82 1 #[(0, qt 34)]) 82,
 sop nb 36 (.call { callee := .builtin .append, args := #[qt 32, qt 35], argTypes := #[82, 82] }) 82,
 qmv nb 37 7 3,
 qld nb 38 141 12,
 qcl nb 39 99 #[qt 38] #[141] 3,
 qbo nb 40 .add 3 37 (qt 39) 3 3,
 qsg nb 6 36 82,
 qsg nb 7 40 3] [(3, 6), (4, 6)])))))) (
   .ops [qbo nb 41 .add 3 15 (qi 1) 3 3,
 qmv nb 15 41 3]))))))) (
 .seq (
 .ops [qmv nb 42 6 82,
 qmv nb 43 7 3,
 qsg nb 6 42 82,
 qsg nb 7 43 3,
 sop nb 8 (.assign (.const (.bool true))) 4]) (
 .ret)))
@[go_sem] theorem rs81 : Go.Proofs.Try.f81.results.toList = [.tmp 6, .tmp 7, .tmp 8] := by kernel_rfl
theorem k81 (nb : Nat) : sk nb Go.Proofs.Try.f81.ntmps (Go.Proofs.Try.f81.body.getD .skip) = some (c81 nb) := by kernel_rfl
theorem w81 {a : List Arg} {r : RV} (h : W Q (c81 0) [] ⟨ρ0 (a.map fun a => a.m.lv), h0⟩ (retG Q Go.Proofs.Try.f81.results.toList (retF r))) (l : Nat.ble a.length Go.Proofs.Try.f81.ntmps = true := by kernel_rfl) : Fn Q 81 a r := fn_intro Go.Proofs.Try.func81 rfl (by kernel_rfl) mix (k81 0) (Nat.le_of_ble_eq_true l) h
noncomputable def c82 (nb : Nat) : SC :=
 .seq (
 .ops [sop nb 1 (.box 24 (qt 0)) 0,
 sop nb 2 (.assign (.const (.pointer none))) 108,
 sop nb 3 (.assign (qi 0)) 34]) (
 .seq (
 .ops [sop nb 11 (.makeFunc (.func 100) #[] #[qt 1]) 163,
 sop nb 4 (.alloc 163) 0,
 nop (.store 163 (qt 4) (qt 11)) 0]) (
 .seq (
 .ops [sop nb 12 (.makeFunc (.func 101) #[] #[qt 4]) 163,
 qsg nb 5 12 163]) (
 .seq (
 .block 0 (
  .seq (
  .ops [sop nb 14 (.fieldAddr 24 (qt 1) 0) 0,
 qld nb 15 3 14,
 sop nb 16 (.buildSlice 26 1 #[(0, qt 15)]) 26,
 qcl nb 17 87 #[qi 1, qi 8, qt 16] #[3, 3, 26] 4,
 sop nb 18 (.unOp .not 4 (qt 17)) 4,
 qsg nb 13 18 4]) (
  .cond (qt 13) (
   .seq (
   .ops [sop nb 2 (.assign (.const (.pointer none))) 108,
 sop nb 3 (.assign (qi 4)) 34]) (
   .ret)) (
   .seq (
   .seq (
   .ops [sop nb 20 (.fieldAddr 24 (qt 1) 1) 0,
 qld nb 21 22 20,
 qln nb 22 #[qt 21] #[22] 3,
 qbo nb 23 .gtr 3 22 (qi 8) 3 4,
 qsg nb 19 23 4]) (
   .cond (qt 19) (
    .skip) (
    .ops [sop nb 24 (.fieldAddr 24 (qt 1) 2) 0,
 qld nb 25 22 24,
 qln nb 26 #[qt 25] #[22] 3,
 qbo nb 27 .gtr 3 26 (qi 8) 3 4,
 qsg nb 19 27 4]))) (
   .cond (qt 19) (
    .seq (
    .ops [sop nb 2 (.assign (.const (.pointer none))) 108,
 sop nb 3 (.assign (qi 5)) 34]) (
    .ret)) (
    .seq (
    .seq (
    .ops [sop nb 29 (.fieldAddr 24 (qt 1) 1) 0,
 qld nb 30 22 29,
 qld nb 31 163 4,
 qcl nb 32 102 #[qt 30, qt 31] #[22, 163] 4,
 qsg nb 28 32 4]) (
    .cond (qt 28) (
     .skip) (
     .ops [sop nb 33 (.fieldAddr 24 (qt 1) 2) 0,
 qld nb 34 22 33,
 qmv nb 35 5 163,
 qcl nb 36 102 #[qt 34, qt 35] #[22, 163] 4,
 qsg nb 28 36 4]))) (
    .cond (qt 28) (
     .seq (
     .ops [sop nb 2 (.assign (.const (.pointer none))) 108,
 sop nb 3 (.assign (qi 2)) 34]) (
     .ret)) (
     .skip)))))))) (
 .seq (
 .ops [qld nb 37 24 1,
 sop nb 38 (.makeMap 121 none) 121,
 sop nb 39 (.build 123 #[(0, qt 37), (2, qt 38)]) 123,
 sop nb 40 (.box 123 (qt 39)) 108,
 qsg nb 2 40 108]) (
 .seq (
 .seq (
 .ops [sop nb 41 (.move (qi 0)) 3]) (
 .block 1 (
  .loop (
   .seq (
   .ops [qbo nb 42 .lss 3 41 (qi 8) 3 0]) (
   .seq (
   .cond (qt 42) (
    .skip) (
    .exit 1)) (
   .seq (
   .block 2 (
    .seq (
    .ops [qmv nb 43 41 3,
 qsg nb 6 43 3]) (
    .ops [qmv nb 44 2 108,
 qmv nb 45 6 3,
 sop nb 46 (.nilCheck (qt 44)) 0,
 sop nb 47 (.fieldAddr 123 (qt 46) 1) 0,
 qix nb 48 120 47 45 0,
 nop (.store 3 (qt 48) (qi (-1))) 0]))) (
   .ops [qbo nb 49 .add 3 41 (qi 1) 3 3,
 qmv nb 41 49 3]))))))) (
 .seq (
 .seq (
 .ops [sop nb 50 (.fieldAddr 24 (qt 1) 1) 0,
 qld nb 51 22 50,
 qln nb 52 #[qt 51] #[22] 3,
 sop nb 53 (.move (qi 0)) 3]) (
 .block 3 (
  .loop (
   .seq (
   .ops [qbo nb 54 .lss 3 53 (qt 52) 3 0]) (
   .seq (
   .cond (qt 54) (
    .skip) (
    .exit 3)) (
   .seq (
   .block 4 (
    .seq (
    .ops [qix nb 55 22 51 53 0,
 qld nb 56 115 55,
 sop nb 8 (.alloc 115) 0,
 nop (.store 115 (qt 8) (qt 56)) 0]) (
    .seq (
    .seq (
    .ops [qmv nb 57 2 108,
 sop nb 58 (.fieldAddr 115 (qt 8) 0) 0,
 qld nb 59 3 58,
 sop nb 60 (.nilCheck (qt 57)) 0,
 sop nb 61 (.fieldAddr 123 (qt 60) 1) 0,
 qix nb 62 120 61 59 0,
 qld nb 63 3 62,
 qbo nb 64 .neq 3 63 (qi (-1)) 3 4,
 qmv nb 65 64 4,
 gop nb 66 (.move (qt 2)) 108 65 false,
 gop nb 67 (.fieldAddr 115 (qt 8) 1) 0 65 false,
 gop nb 68 (.load 3 (qt 67)) 3 65 false,
 gop nb 69 (.nilCheck (qt 66)) 0 65 false,
 gop nb 70 (.fieldAddr 123 (qt 69) 1) 0 65 false,
 gop nb 71 (.indexAddr 120 (qt 70) (qt 68)) 0 65 false,
 gop nb 72 (.load 3 (qt 71)) 3 65 false,
 gop nb 73 (.binOp .neq 3 (qt 72) (qi (-1)) 3) 4 65 false,
 sop nb 74 (.pick (qt 65) (.const (.bool true)) (qt 73)) 4]) (
    .cond (qt 74) (
     .seq (
     .ops [sop nb 2 (.assign (.const (.pointer none))) 108,
 sop nb 3 (.assign (qi 6)) 34]) (
     .ret)) (
     .skip))) (
    .opsD [qmv nb 75 2 108,
 sop nb 76 (.fieldAddr 115 (qt 8) 0) 0,
 qld nb 77 3 76,
 qmv nb 78 2 108,
 sop nb 79 (.fieldAddr 115 (qt 8) 1) 0,
 qld nb 80 3 79,
 sop nb 81 (.fieldAddr 115 (qt 8) 1) 0,
 qld nb 82 3 81,
 sop nb 83 (.fieldAddr 115 (qt 8) 0) 0,
 qld nb 84 3 83,
 sop nb 85 (.nilCheck (qt 75)) 0,
 sop nb 86 (.fieldAddr 123 (qt 85) 1) 0,
 qix nb 87 120 86 77 0,
 nop (.store 3 (qt 87) (qt 82)) 0,
 sop nb 88 (.nilCheck (qt 78)) 0,
 sop nb 89 (.fieldAddr 123 (qt 88) 1) 0,
 qix nb 90 120 89 80 0,
 nop (.store 3 (qt 90) (qt 84)) 0] [(5, 13), (9, 13)])))) (
   .ops [qbo nb 91 .add 3 53 (qi 1) 3 3,
 qmv nb 53 91 3]))))))) (
 .seq (
 .seq (
 .ops [sop nb 92 (.fieldAddr 24 (qt 1) 2) 0,
 qld nb 93 22 92,
 qln nb 94 #[qt 93] #[22] 3,
 sop nb 95 (.move (qi 0)) 3]) (
 .block 5 (
  .loop (
   .seq (
   .ops [qbo nb 96 .lss 3 95 (qt 94) 3 0]) (
   .seq (
   .cond (qt 96) (
    .skip) (
    .exit 5)) (
   .seq (
   .block 6 (
    .seq (
    .ops [qix nb 97 22 93 95 0,
 qld nb 98 115 97,
 sop nb 10 (.alloc 115) 0,
 nop (.store 115 (qt 10) (qt 98)) 0]) (
    .ops [qmv nb 99 2 108,
 sop nb 100 (.nilCheck (qt 99)) 0,
 sop nb 101 (.fieldAddr 123 (qt 100) 2) 0,
 qld nb 102 121 101,
 qld nb 103 115 10,
 qmv nb 104 2 108,
 sop nb 105 (.nilCheck (qt 104)) 0,
 sop nb 106 (.fieldAddr 123 (qt 105) 2) 0,
 qld nb 107 121 106,
 sop nb 108 (.fieldAddr 115 (qt 10) 1) 0,
 qld nb 109 3 108,
 sop nb 110 (.fieldAddr 115 (qt 10) 0) 0,
 qld nb 111 3 110,
 sop nb 112 (.build 115 #[(0, qt 109), (1, qt 111)]) 115,
 sop nb 113 (.mapEntry 121 (qt 102) (qt 103)) 0,
 qex nb 114 113 1 3,
 nop (.entryStore 121 (qt 102) (qt 114) (.const (.bool true))) 0,
 sop nb 115 (.mapEntry 121 (qt 107) (qt 112)) 0,
 qex nb 116 115 1 3,
 nop (.entryStore 121 (qt 107) (qt 116) (.const (.bool true))) 0]))) (
   .ops [qbo nb 117 .add 3 95 (qi 1) 3 3,
 qmv nb 95 117 3]))))))) (
 .seq (
 .ops [qmv nb 118 2 108,
 qsg nb 2 118 108,
 sop nb 3 (.assign (qi 0)) 34]) (
 .ret)))))))))
@[go_sem] theorem rs82 : Go.Proofs.Try.f82.results.toList = [.tmp 2, .tmp 3] := by kernel_rfl
theorem k82 (nb : Nat) : sk nb Go.Proofs.Try.f82.ntmps (Go.Proofs.Try.f82.body.getD .skip) = some (c82 nb) := by kernel_rfl
theorem w82 {a : List Arg} {r : RV} (h : W Q (c82 0) [] ⟨ρ0 (a.map fun a => a.m.lv), h0⟩ (retG Q Go.Proofs.Try.f82.results.toList (retF r))) (l : Nat.ble a.length Go.Proofs.Try.f82.ntmps = true := by kernel_rfl) : Fn Q 82 a r := fn_intro Go.Proofs.Try.func82 rfl (by kernel_rfl) mix (k82 0) (Nat.le_of_ble_eq_true l) h
noncomputable def c85 (nb : Nat) : SC :=
 .seq (
 .ops [sop nb 2 (.box 108 (qt 0)) 0,
 sop nb 4 (.assign (.const (.bool false))) 4]) (
 .seq (
 .ops [qmv nb 5 1 25,
 sop nb 6 (.makeFunc (.func 104) #[] #[qt 2]) 154,
 qcl nb 7 90 #[qt 5, qt 6] #[25, 154] 4,
 sop nb 8 (.unOp .not 4 (qt 7)) 4,
 qsg nb 4 8 4]) (
 .ret))
@[go_sem] theorem rs85 : Go.Proofs.Try.f85.results.toList = [.tmp 4] := by kernel_rfl
theorem k85 (nb : Nat) : sk nb Go.Proofs.Try.f85.ntmps (Go.Proofs.Try.f85.body.getD .skip) = some (c85 nb) := by kernel_rfl
theorem w85 {a : List Arg} {r : RV} (h : W Q (c85 0) [] ⟨ρ0 (a.map fun a => a.m.lv), h0⟩ (retG Q Go.Proofs.Try.f85.results.toList (retF r))) (l : Nat.ble a.length Go.Proofs.Try.f85.ntmps = true := by kernel_rfl) : Fn Q 85 a r := fn_intro Go.Proofs.Try.func85 rfl (by kernel_rfl) mix (k85 0) (Nat.le_of_ble_eq_true l) h
noncomputable def c86 (nb : Nat) : SC :=
 .seq (
 .ops [sop nb 3 (.box 108 (qt 0)) 0,
 sop nb 5 (.box 26 (qt 2)) 0,
 sop nb 6 (.assign (.const (.bool false))) 4]) (
 .seq (
 .ops [qmv nb 7 1 26,
 qln nb 8 #[qt 7] #[26] 3,
 sop nb 9 (.buildSlice 26 1 #[(0, qt 8)]) 26,
 qcl nb 10 87 #[qi 1, qi 6, qt 9] #[3, 3, 26] 4,
 qmv nb 11 10 4,
 gop nb 12 (.move (qt 1)) 26 11 true,
 gop nb 13 (.makeFunc (.func 106) #[] #[qt 3, qt 5]) 167 11 true,
 gop nb 14 (.call { callee := .value (.func 105), args := #[qt 12, qt 13], argTypes := #[26, 167] }) 4 11 true,
 gop nb 15 (.unOp .not 4 (qt 14)) 4 11 true,
 sop nb 16 (.pick (qt 11) (qt 15) (.const (.bool false))) 4,
 qsg nb 6 16 4]) (
 .ret))
@[go_sem] theorem rs86 : Go.Proofs.Try.f86.results.toList = [.tmp 6] := by kernel_rfl
theorem k86 (nb : Nat) : sk nb Go.Proofs.Try.f86.ntmps (Go.Proofs.Try.f86.body.getD .skip) = some (c86 nb) := by kernel_rfl
theorem w86 {a : List Arg} {r : RV} (h : W Q (c86 0) [] ⟨ρ0 (a.map fun a => a.m.lv), h0⟩ (retG Q Go.Proofs.Try.f86.results.toList (retF r))) (l : Nat.ble a.length Go.Proofs.Try.f86.ntmps = true := by kernel_rfl) : Fn Q 86 a r := fn_intro Go.Proofs.Try.func86 rfl (by kernel_rfl) mix (k86 0) (Nat.le_of_ble_eq_true l) h
noncomputable def c87 (nb : Nat) : SC :=
 .seq (
 .ops [sop nb 3 (.box 3 (qt 0)) 0,
 sop nb 4 (.box 3 (qt 1)) 0,
 sop nb 6 (.assign (.const (.bool false))) 4]) (
 .seq (
 .ops [qmv nb 7 2 26,
 sop nb 8 (.makeFunc (.func 108) #[] #[qt 3, qt 4]) 167,
 qcl nb 9 105 #[qt 7, qt 8] #[26, 167] 4,
 sop nb 10 (.unOp .not 4 (qt 9)) 4,
 qsg nb 6 10 4]) (
 .ret))
@[go_sem] theorem rs87 : Go.Proofs.Try.f87.results.toList = [.tmp 6] := by kernel_rfl
theorem k87 (nb : Nat) : sk nb Go.Proofs.Try.f87.ntmps (Go.Proofs.Try.f87.body.getD .skip) = some (c87 nb) := by kernel_rfl
theorem w87 {a : List Arg} {r : RV} (h : W Q (c87 0) [] ⟨ρ0 (a.map fun a => a.m.lv), h0⟩ (retG Q Go.Proofs.Try.f87.results.toList (retF r))) (l : Nat.ble a.length Go.Proofs.Try.f87.ntmps = true := by kernel_rfl) : Fn Q 87 a r := fn_intro Go.Proofs.Try.func87 rfl (by kernel_rfl) mix (k87 0) (Nat.le_of_ble_eq_true l) h
noncomputable def c88 (nb : Nat) : SC :=
 .seq (
 .ops [sop nb 3 (.box 110 (qt 0)) 0,
 sop nb 6 (.assign (.const (.map none))) 151]) (
 .seq (
 .ops [sop nb 16 (.makeMap 151 none) 151,
 qsg nb 7 16 151]) (
 .seq (
 .ops [sop nb 18 (.fieldAddr 110 (qt 3) 0) 0,
 qld nb 19 108 18,
 qmv nb 20 1 26,
 sop nb 21 (.fieldAddr 110 (qt 3) 2) 0,
 qld nb 22 26 21,
 qcl nb 23 81 #[qt 19, qt 20, qt 22] #[108, 26, 26] 143,
 qmv nb 17 23 143,
 qex nb 24 17 0 82,
 qex nb 25 17 1 3,
 qex nb 26 17 2 4,
 qsg nb 8 24 82,
 qsg nb 9 25 3,
 qsg nb 10 26 4]) (
 .seq (
 .ops [sop nb 28 (.fieldAddr 110 (qt 3) 0) 0,
 qld nb 29 108 28,
 qmv nb 30 1 26,
 qmv nb 31 2 3,
 qmv nb 32 2 3,
 qbo nb 33 .add 3 32 (qi 1) 3 3,
 sop nb 34 (.slice 26 (qt 30) (some (qt 31)) (some (qt 33)) none) 26,
 sop nb 35 (.fieldAddr 110 (qt 3) 2) 0,
 qld nb 36 26 35,
 qmv nb 37 2 3,
 qmv nb 38 2 3,
 qbo nb 39 .add 3 38 (qi 1) 3 3,
 sop nb 40 (.slice 26 (qt 36) (some (qt 37)) (some (qt 39)) none) 26,
 qcl nb 41 81 #[qt 29, qt 34, qt 40] #[108, 26, 26] 143,
 qmv nb 27 41 143,
 qex nb 42 27 0 82,
 qex nb 43 27 1 3,
 qex nb 44 27 2 4,
 qsg nb 11 42 82,
 qsg nb 12 43 3,
 qsg nb 13 44 4]) (
 .seq (
 .seq (
 .ops [sop nb 45 (.fieldAddr 110 (qt 3) 0) 0,
 qld nb 46 108 45,
 qmv nb 47 1 26,
 qmv nb 48 2 3,
 qix nb 49 26 47 48 0,
 qld nb 50 3 49,
 sop nb 51 (.fieldAddr 110 (qt 3) 2) 0,
 qld nb 52 26 51,
 qmv nb 53 2 3,
 qix nb 54 26 52 53 0,
 qld nb 55 3 54,
 qcl nb 56 79 #[qt 46, qt 50, qt 55] #[108, 3, 3] 138,
 qln nb 57 #[qt 56] #[138] 3,
 sop nb 58 (.move (qi 0)) 3]) (
 .block 0 (
  .loop (
   .seq (
   .ops [qbo nb 59 .lss 3 58 (qt 57) 3 0]) (
   .seq (
   .cond (qt 59) (
    .skip) (
    .exit 0)) (
   .seq (
   .block 1 (
    .seq (
    .ops [qix nb 60 138 56 58 0,
 qld nb 61 141 60,
 sop nb 15 (.alloc 141) 0,
 nop (.store 141 (qt 15) (qt 61)) 0]) (
    .seq (
    .opsD [qmv nb 62 9 3,
 qmv nb 63 12 3,
 qbo nb 64 .sub 3 62 (qt 63) 3 3,
 qld nb 65 141 15,
 qcl nb 66 99 #[qt 65] #[141] 3,
 qbo nb 67 .add 3 64 (qt 66) 3 3,
 sop nb 68 (.fieldAddr 110 (qt 3) 3) 0,
 qld nb 69 3 68,
 qbo nb 70 .leq 3 67 (qt 69) 3 4] [(4, 7)]) (
    .cond (qt 70) (
     .ops [qmv nb 71 7 151,
 sop nb 72 (.fieldAddr 141 (qt 15) 1) 0,
 qld nb 73 3 72,
 nop (.mapUpdate 151 (qt 71) (qt 73) (.const (.bool true))) 0]) (
     .skip))))) (
   .ops [qbo nb 74 .add 3 58 (qi 1) 3 3,
 qmv nb 58 74 3]))))))) (
 .seq (
 .ops [qmv nb 75 7 151,
 qsg nb 6 75 151]) (
 .ret))))))
@[go_sem] theorem rs88 : Go.Proofs.Try.f88.results.toList = [.tmp 6] := by kernel_rfl
theorem k88 (nb : Nat) : sk nb Go.Proofs.Try.f88.ntmps (Go.Proofs.Try.f88.body.getD .skip) = some (c88 nb) := by kernel_rfl
theorem w88 {a : List Arg} {r : RV} (h : W Q (c88 0) [] ⟨ρ0 (a.map fun a => a.m.lv), h0⟩ (retG Q Go.Proofs.Try.f88.results.toList (retF r))) (l : Nat.ble a.length Go.Proofs.Try.f88.ntmps = true := by kernel_rfl) : Fn Q 88 a r := fn_intro Go.Proofs.Try.func88 rfl (by kernel_rfl) mix (k88 0) (Nat.le_of_ble_eq_true l) h
noncomputable def c89 (nb : Nat) : SC :=
 .seq (
 .ops [sop nb 6 (.assign (.const (.bool false))) 4]) (
 .seq (
 .ops [qmv nb 7 1 26,
 qln nb 8 #[qt 7] #[26] 3,
 qmv nb 9 0 108,
 sop nb 10 (.nilCheck (qt 9)) 0,
 sop nb 11 (.fieldAddr 123 (qt 10) 0) 0,
 sop nb 12 (.fieldAddr 24 (qt 11) 0) 0,
 qld nb 13 3 12,
 qbo nb 14 .eql 3 8 (qt 13) 3 4,
 qmv nb 15 14 4,
 gop nb 16 (.move (qt 2)) 3 15 true,
 gop nb 17 (.move (qt 1)) 26 15 true,
 gop nb 18 (.call { callee := .value (.func 87), args := #[qi 0, qt 16, qt 17], argTypes := #[3, 3, 26] }) 4 15 true,
 sop nb 19 (.pick (qt 15) (qt 18) (.const (.bool false))) 4,
 qsg nb 6 19 4]) (
 .ret))
@[go_sem] theorem rs89 : Go.Proofs.Try.f89.results.toList = [.tmp 6] := by kernel_rfl
theorem k89 (nb : Nat) : sk nb Go.Proofs.Try.f89.ntmps (Go.Proofs.Try.f89.body.getD .skip) = some (c89 nb) := by kernel_rfl
theorem w89 {a : List Arg} {r : RV} (h : W Q (c89 0) [] ⟨ρ0 (a.map fun a => a.m.lv), h0⟩ (retG Q Go.Proofs.Try.f89.results.toList (retF r))) (l : Nat.ble a.length Go.Proofs.Try.f89.ntmps = true := by kernel_rfl) : Fn Q 89 a r := fn_intro Go.Proofs.Try.func89 rfl (by kernel_rfl) mix (k89 0) (Nat.le_of_ble_eq_true l) h
noncomputable def c90 (nb : Nat) : SC :=
 .seq (
 .ops [sop nb 4 (.assign (.const (.bool false))) 4]) (
 .seq (
 .ops [qmv nb 5 0 25,
 qmv nb 6 1 154,
 qcl nb 7 109 #[qt 5, qt 6] #[25, 154] 3,
 qbo nb 8 .geq 3 7 (qi 0) 3 4,
 qsg nb 4 8 4]) (
 .ret))
@[go_sem] theorem rs90 : Go.Proofs.Try.f90.results.toList = [.tmp 4] := by kernel_rfl
theorem k90 (nb : Nat) : sk nb Go.Proofs.Try.f90.ntmps (Go.Proofs.Try.f90.body.getD .skip) = some (c90 nb) := by kernel_rfl
theorem w90 {a : List Arg} {r : RV} (h : W Q (c90 0) [] ⟨ρ0 (a.map fun a => a.m.lv), h0⟩ (retG Q Go.Proofs.Try.f90.results.toList (retF r))) (l : Nat.ble a.length Go.Proofs.Try.f90.ntmps = true := by kernel_rfl) : Fn Q 90 a r := fn_intro Go.Proofs.Try.func90 rfl (by kernel_rfl) mix (k90 0) (Nat.le_of_ble_eq_true l) h
noncomputable def c91 (nb : Nat) : SC :=
 .seq (
 .ops [sop nb 3 (.assign (.const (.bool false))) 4]) (
 .seq (
 .ops [qld nb 4 108 1,
 qmv nb 5 0 26,
 qcl nb 6 89 #[qt 4, qt 5, qi 5] #[108, 26, 3] 4,
 sop nb 7 (.unOp .not 4 (qt 6)) 4,
 qsg nb 3 7 4]) (
 .ret))
@[go_sem] theorem rs91 : Go.Proofs.Try.f91.results.toList = [.tmp 3] := by kernel_rfl
theorem en91 : Enters Q 91 := enters_of Go.Proofs.Try.func91 rfl (by kernel_rfl)
theorem k91 (nb : Nat) : sk nb Go.Proofs.Try.f91.ntmps (Go.Proofs.Try.f91.body.getD .skip) = some (c91 nb) := by kernel_rfl
theorem w91 {a : List Arg} {r : RV} (h : W Q (c91 0) [] ⟨ρ0 (a.map fun a => a.m.lv), h0⟩ (retG Q Go.Proofs.Try.f91.results.toList (retF r))) (l : Nat.ble a.length Go.Proofs.Try.f91.ntmps = true := by kernel_rfl) : Fn Q 91 a r := fn_intro Go.Proofs.Try.func91 rfl (by kernel_rfl) mix (k91 0) (Nat.le_of_ble_eq_true l) h
noncomputable def c92 (nb : Nat) : SC :=
 .seq (
 .ops [sop nb 2 (.box 25 (qt 0)) 0,
 sop nb 4 (.assign (.const (.slice none 0 0))) 25]) (
 .seq (
 .seq (
 .ops [qmv nb 6 1 155]) (
 .block 0 (
  .rangeF (qt 6) [7] (
   .ops [qsg nb 5 7 26]) (
   .block 1 (
    .ops [qld nb 8 25 2,
 qmv nb 9 5 26,
 sop nb 10 (.buildSlice 25 1 #[(0, qt 9)]) 25,
 sop nb 11 (.call { callee := .builtin .append, args := #[qt 8, qt 10], argTypes := #[25, 25] }) 25,
 nop (.store 25 (qt 2) (qt 11)) 0]))))) (
 .seq (
 .ops [qld nb 12 25 2,
 qsg nb 4 12 25]) (
 .ret)))
@[go_sem] theorem rs92 : Go.Proofs.Try.f92.results.toList = [.tmp 4] := by kernel_rfl
theorem k92 (nb : Nat) : sk nb Go.Proofs.Try.f92.ntmps (Go.Proofs.Try.f92.body.getD .skip) = some (c92 nb) := by kernel_rfl
theorem w92 {a : List Arg} {r : RV} (h : W Q (c92 0) [] ⟨ρ0 (a.map fun a => a.m.lv), h0⟩ (retG Q Go.Proofs.Try.f92.results.toList (retF r))) (l : Nat.ble a.length Go.Proofs.Try.f92.ntmps = true := by kernel_rfl) : Fn Q 92 a r := fn_intro Go.Proofs.Try.func92 rfl (by kernel_rfl) mix (k92 0) (Nat.le_of_ble_eq_true l) h
noncomputable def c93 (nb : Nat) : SC :=
 .seq (
 .ops [sop nb 9 (.assign (.const (.bool false))) 4]) (
 .seq (
 .seq (
 .ops [qmv nb 14 0 26,
 qln nb 15 #[qt 14] #[26] 3,
 qbo nb 16 .gtr 3 15 (qi 0) 3 4,
 qmv nb 17 16 4,
 gop nb 18 (.load 129 (qt 3)) 129 17 true,
 gop nb 19 (.move (qt 1)) 26 17 true,
 gop nb 20 (.call { callee := .value (.func 94), args := #[qt 18, qt 19], argTypes := #[129, 26] }) 4 17 true,
 sop nb 21 (.pick (qt 17) (qt 20) (.const (.bool false))) 4,
 qmv nb 22 21 4,
 gop nb 23 (.load 154 (qt 4)) 154 22 true,
 gop nb 24 (.move (qt 0)) 26 22 true,
 gop nb 25 (.call { callee := .value (qt 23), args := #[qt 24], argTypes := #[26] }) 4 22 true,
 gop nb 26 (.unOp .not 4 (qt 25)) 4 22 true,
 sop nb 27 (.pick (qt 22) (qt 26) (.const (.bool false))) 4]) (
 .cond (qt 27) (
  .seq (
  .ops [sop nb 9 (.assign (.const (.bool false))) 4]) (
  .ret)) (
  .skip))) (
 .seq (
 .seq (
 .ops [qmv nb 28 2 3,
 qsg nb 10 28 3]) (
 .block 0 (
  .loop (
   .seq (
   .seq (
   .ops [qmv nb 29 10 3,
 sop nb 30 (.fieldAddr 129 (qt 3) 1) 0,
 qld nb 31 25 30,
 qln nb 32 #[qt 31] #[25] 3,
 qbo nb 33 .lss 3 29 (qt 32) 3 4]) (
   .cond (qt 33) (
    .skip) (
    .exit 0))) (
   .seq (
   .block 1 (
    .seq (
    .ops [qmv nb 36 1 26,
 qcl nb 37 66 #[qt 36] #[26] 26,
 qsg nb 11 37 26]) (
    .seq (
    .seq (
    .ops [sop nb 38 (.fieldAddr 129 (qt 3) 1) 0,
 qld nb 39 25 38,
 qmv nb 40 10 3,
 qix nb 41 25 39 40 0,
 qld nb 42 26 41,
 qln nb 43 #[qt 42] #[26] 3,
 sop nb 44 (.move (qi 0)) 3]) (
    .block 2 (
     .loop (
      .seq (
      .ops [qbo nb 45 .lss 3 44 (qt 43) 3 0]) (
      .seq (
      .cond (qt 45) (
       .skip) (
       .exit 2)) (
      .seq (
      .block 3 (
       .seq (
       .ops [qmv nb 46 44 3,
 qix nb 47 26 42 44 0,
 qld nb 48 3 47,
 qsg nb 12 46 3,
 qsg nb 13 48 3]) (
       .ops [qmv nb 49 11 26,
 qmv nb 50 12 3,
 qix nb 51 26 49 50 0,
 qld nb 52 3 51,
 qmv nb 53 13 3,
 qbo nb 54 .add 3 52 (qt 53) 3 3,
 qix nb 55 26 49 50 0,
 nop (.store 3 (qt 55) (qt 54)) 0]))) (
      .ops [qbo nb 56 .add 3 44 (qi 1) 3 3,
 qmv nb 44 56 3]))))))) (
    .seq (
    .opsD [qld nb 57 157 5,
 qmv nb 58 0 26,
 qcl nb 59 95 #[qt 58] #[26] 26,
 qmv nb 60 10 3,
 sop nb 61 (.buildSlice 26 1 #[(0, qt 60)]) 26,
 sop nb 62 (.call { callee := .builtin .append, args := #[qt 59, qt 61], argTypes := #[26, 26] }) 26,
 qmv nb 63 11 26,
 qmv nb 64 10 3,
 qbo nb 65 .add 3 64 (qi 1) 3 3,
 sop nb 66 (.call { callee := .value (qt 57), args := #[qt 62, qt 63, qt 65], argTypes := #[26, 26, 3] }) 4,
 sop nb 67 (.unOp .not 4 (qt 66)) 4] [(0, 2), (0, 4), (2, 4), (0, 5)]) (
    .cond (qt 67) (
     .seq (
     .ops [sop nb 9 (.assign (.const (.bool false))) 4]) (
     .ret)) (
     .skip)))))) (
   .ops [qmv nb 34 10 3,
 qbo nb 35 .add 3 34 (qi 1) 3 3,
 qsg nb 10 35 3])))))) (
 .seq (
 .ops [sop nb 9 (.assign (.const (.bool true))) 4]) (
 .ret))))
@[go_sem] theorem rs93 : Go.Proofs.Try.f93.results.toList = [.tmp 9] := by kernel_rfl
theorem k93 (nb : Nat) : sk nb Go.Proofs.Try.f93.ntmps (Go.Proofs.Try.f93.body.getD .skip) = some (c93 nb) := by kernel_rfl
noncomputable def c94 (nb : Nat) : SC :=
 .seq (
 .ops [sop nb 2 (.box 129 (qt 0)) 0,
 sop nb 4 (.assign (.const (.bool false))) 4]) (
 .seq (
 .ops [sop nb 5 (.assign (qi 0)) 3]) (
 .seq (
 .seq (
 .ops [sop nb 8 (.fieldAddr 129 (qt 2) 2) 0,
 qld nb 9 26 8,
 qln nb 10 #[qt 9] #[26] 3,
 sop nb 11 (.move (qi 0)) 3]) (
 .block 0 (
  .loop (
   .seq (
   .ops [qbo nb 12 .lss 3 11 (qt 10) 3 0]) (
   .seq (
   .cond (qt 12) (
    .skip) (
    .exit 0)) (
   .seq (
   .block 1 (
    .seq (
    .ops [qmv nb 13 11 3,
 qix nb 14 26 9 11 0,
 qld nb 15 3 14,
 qsg nb 6 13 3,
 qsg nb 7 15 3]) (
    .seq (
    .seq (
    .ops [qmv nb 16 1 26,
 qmv nb 17 6 3,
 qix nb 18 26 16 17 0,
 qld nb 19 3 18,
 qmv nb 20 7 3,
 qbo nb 21 .lss 3 19 (qt 20) 3 4]) (
    .cond (qt 21) (
     .seq (
     .ops [sop nb 4 (.assign (.const (.bool false))) 4]) (
     .ret)) (
     .skip))) (
    .ops [qmv nb 22 5 3,
 qmv nb 23 1 26,
 qmv nb 24 6 3,
 qix nb 25 26 23 24 0,
 qld nb 26 3 25,
 qmv nb 27 7 3,
 qbo nb 28 .sub 3 26 (qt 27) 3 3,
 qbo nb 29 .add 3 22 (qt 28) 3 3,
 qsg nb 5 29 3])))) (
   .ops [qbo nb 30 .add 3 11 (qi 1) 3 3,
 qmv nb 11 30 3]))))))) (
 .seq (
 .ops [qmv nb 31 5 3,
 sop nb 32 (.fieldAddr 129 (qt 2) 3) 0,
 qld nb 33 3 32,
 qbo nb 34 .leq 3 31 (qt 33) 3 4,
 qsg nb 4 34 4]) (
 .ret))))
@[go_sem] theorem rs94 : Go.Proofs.Try.f94.results.toList = [.tmp 4] := by kernel_rfl
theorem k94 (nb : Nat) : sk nb Go.Proofs.Try.f94.ntmps (Go.Proofs.Try.f94.body.getD .skip) = some (c94 nb) := by kernel_rfl
theorem w94 {a : List Arg} {r : RV} (h : W Q (c94 0) [] ⟨ρ0 (a.map fun a => a.m.lv), h0⟩ (retG Q Go.Proofs.Try.f94.results.toList (retF r))) (l : Nat.ble a.length Go.Proofs.Try.f94.ntmps = true := by kernel_rfl) : Fn Q 94 a r := fn_intro Go.Proofs.Try.func94 rfl (by kernel_rfl) mix (k94 0) (Nat.le_of_ble_eq_true l) h
noncomputable def c95 (nb : Nat) : SC :=
 .seq (
 .ops [sop nb 2 (.assign (.const (.slice none 0 0))) 26]) (
 .seq (
 .ops [qmv nb 3 0 26,
 qmv nb 4 0 26,
 qln nb 5 #[qt 4] #[26] 3,
 qmv nb 6 0 26,
 qln nb 7 #[qt 6] #[26] 3,
 sop nb 8 (.slice 26 (qt 3) none (some (qt 5)) (some (qt 7))) 26,
 qsg nb 2 8 26]) (
 .ret))
@[go_sem] theorem rs95 : Go.Proofs.Try.f95.results.toList = [.tmp 2] := by kernel_rfl
theorem k95 (nb : Nat) : sk nb Go.Proofs.Try.f95.ntmps (Go.Proofs.Try.f95.body.getD .skip) = some (c95 nb) := by kernel_rfl
theorem w95 {a : List Arg} {r : RV} (h : W Q (c95 0) [] ⟨ρ0 (a.map fun a => a.m.lv), h0⟩ (retG Q Go.Proofs.Try.f95.results.toList (retF r))) (l : Nat.ble a.length Go.Proofs.Try.f95.ntmps = true := by kernel_rfl) : Fn Q 95 a r := fn_intro Go.Proofs.Try.func95 rfl (by kernel_rfl) mix (k95 0) (Nat.le_of_ble_eq_true l) h
noncomputable def c96 (nb : Nat) : SC :=
 .seq (
 .ops [sop nb 2 (.box 108 (qt 0)) 0,
 sop nb 3 (.box 3 (qt 1)) 0,
 sop nb 4 (.assign (.const .nilFunc)) 158]) (
 .seq (
 .ops [sop nb 5 (.makeFunc (.func 110) #[] #[qt 3, qt 2]) 158,
 qsg nb 4 5 158]) (
 .ret))
@[go_sem] theorem rs96 : Go.Proofs.Try.f96.results.toList = [.tmp 4] := by kernel_rfl
theorem k96 (nb : Nat) : sk nb Go.Proofs.Try.f96.ntmps (Go.Proofs.Try.f96.body.getD .skip) = some (c96 nb) := by kernel_rfl
theorem w96 {a : List Arg} {r : RV} (h : W Q (c96 0) [] ⟨ρ0 (a.map fun a => a.m.lv), h0⟩ (retG Q Go.Proofs.Try.f96.results.toList (retF r))) (l : Nat.ble a.length Go.Proofs.Try.f96.ntmps = true := by kernel_rfl) : Fn Q 96 a r := fn_intro Go.Proofs.Try.func96 rfl (by kernel_rfl) mix (k96 0) (Nat.le_of_ble_eq_true l) h
noncomputable def c97 (nb : Nat) : SC :=
 .seq (
 .ops [sop nb 4 (.alloc 141) 0]) (
 .seq (
 .seq (
 .ops [qmv nb 7 0 138,
 qln nb 8 #[qt 7] #[138] 3,
 qbo nb 9 .lss 3 8 (qi 1) 3 4]) (
 .cond (qt 9) (
  .ops [sop nb 10 (.makeInterface 9 (.const (.string { data := #[115, 108, 105, 99, 101, 115, 46, 77, 105, 110, 70, 117, 110, 99, 58, 32, 101, 109, 112, 116, 121, 32, 108, 105, 115, 116] }))) 20,
 nop (.panic (qt 10)) 0]) (
  .skip))) (
 .seq (
 .ops [qmv nb 11 0 138,
 sop nb 12 (.indexAddr 138 (qt 11) (qi 0)) 0,
 qld nb 13 141 12,
 sop nb 5 (.alloc 141) 0,
 nop (.store 141 (qt 5) (qt 13)) 0]) (
 .seq (
 .seq (
 .ops [sop nb 6 (.assign (qi 1)) 3]) (
 .block 0 (
  .loop (
   .seq (
   .seq (
   .ops [qmv nb 14 6 3,
 qmv nb 15 0 138,
 qln nb 16 #[qt 15] #[138] 3,
 qbo nb 17 .lss 3 14 (qt 16) 3 4]) (
   .cond (qt 17) (
    .skip) (
    .exit 0))) (
   .seq (
   .block 1 (
    .seq (
    .ops [qmv nb 20 1 162,
 qmv nb 21 0 138,
 qmv nb 22 6 3,
 qix nb 23 138 21 22 0,
 qld nb 24 141 23,
 qld nb 25 141 5,
 sop nb 26 (.call { callee := .value (qt 20), args := #[qt 24, qt 25], argTypes := #[141, 141] }) 3,
 qbo nb 27 .lss 3 26 (qi 0) 3 4]) (
    .cond (qt 27) (
     .ops [qmv nb 28 0 138,
 qmv nb 29 6 3,
 qix nb 30 138 28 29 0,
 qld nb 31 141 30,
 nop (.store 141 (qt 5) (qt 31)) 0]) (
     .skip)))) (
   .ops [qmv nb 18 6 3,
 qbo nb 19 .add 3 18 (qi 1) 3 3,
 qsg nb 6 19 3])))))) (
 .seq (
 .ops [qld nb 32 141 5,
 nop (.store 141 (qt 4) (qt 32)) 0]) (
 .ret)))))
@[go_sem] theorem rs97 : Go.Proofs.Try.f97.results.toList = [.cell 4 141] := by kernel_rfl
theorem k97 (nb : Nat) : sk nb Go.Proofs.Try.f97.ntmps (Go.Proofs.Try.f97.body.getD .skip) = some (c97 nb) := by kernel_rfl
theorem w97 {a : List Arg} {r : RV} (h : W Q (c97 0) [] ⟨ρ0 (a.map fun a => a.m.lv), h0⟩ (retG Q Go.Proofs.Try.f97.results.toList (retF r))) (l : Nat.ble a.length Go.Proofs.Try.f97.ntmps = true := by kernel_rfl) : Fn Q 97 a r := fn_intro Go.Proofs.Try.func97 rfl (by kernel_rfl) mix (k97 0) (Nat.le_of_ble_eq_true l) h
noncomputable def c98 (nb : Nat) : SC :=
 .seq (
 .ops [sop nb 2 (.box 141 (qt 0)) 0,
 sop nb 3 (.box 141 (qt 1)) 0,
 sop nb 4 (.assign (qi 0)) 3]) (
 .seq (
 .opsD [qld nb 5 141 2,
 qcl nb 6 99 #[qt 5] #[141] 3,
 qld nb 7 141 3,
 qcl nb 8 99 #[qt 7] #[141] 3,
 qbo nb 9 .sub 3 6 (qt 8) 3 3,
 qsg nb 4 9 3] [(1, 2)]) (
 .ret))
@[go_sem] theorem rs98 : Go.Proofs.Try.f98.results.toList = [.tmp 4] := by kernel_rfl
theorem k98 (nb : Nat) : sk nb Go.Proofs.Try.f98.ntmps (Go.Proofs.Try.f98.body.getD .skip) = some (c98 nb) := by kernel_rfl
theorem w98 {a : List Arg} {r : RV} (h : W Q (c98 0) [] ⟨ρ0 (a.map fun a => a.m.lv), h0⟩ (retG Q Go.Proofs.Try.f98.results.toList (retF r))) (l : Nat.ble a.length Go.Proofs.Try.f98.ntmps = true := by kernel_rfl) : Fn Q 98 a r := fn_intro Go.Proofs.Try.func98 rfl (by kernel_rfl) mix (k98 0) (Nat.le_of_ble_eq_true l) h
noncomputable def c99 (nb : Nat) : SC :=
 .seq (
 .ops [sop nb 1 (.box 141 (qt 0)) 0,
 sop nb 2 (.assign (qi 0)) 3]) (
 .seq (
 .seq (
 .ops [sop nb 3 (.fieldAddr 141 (qt 1) 0) 0,
 qld nb 4 76 3]) (
 .block 0 (
  .seq (
  .ops [qbo nb 6 .eql 76 4 (qi 0) 76 4,
 qsg nb 5 6 4]) (
  .cond (qt 5) (
   .seq (
   .ops [sop nb 2 (.assign (qi 0)) 3]) (
   .ret)) (
   .seq (
   .ops [qbo nb 8 .eql 76 4 (qi 3) 76 4,
 qsg nb 7 8 4]) (
   .cond (qt 7) (
    .seq (
    .ops [sop nb 2 (.assign (qi 2)) 3]) (
    .ret)) (
    .skip))))))) (
 .seq (
 .ops [sop nb 2 (.assign (qi 1)) 3]) (
 .ret)))
@[go_sem] theorem rs99 : Go.Proofs.Try.f99.results.toList = [.tmp 2] := by kernel_rfl
theorem k99 (nb : Nat) : sk nb Go.Proofs.Try.f99.ntmps (Go.Proofs.Try.f99.body.getD .skip) = some (c99 nb) := by kernel_rfl
theorem w99 {a : List Arg} {r : RV} (h : W Q (c99 0) [] ⟨ρ0 (a.map fun a => a.m.lv), h0⟩ (retG Q Go.Proofs.Try.f99.results.toList (retF r))) (l : Nat.ble a.length Go.Proofs.Try.f99.ntmps = true := by kernel_rfl) : Fn Q 99 a r := fn_intro Go.Proofs.Try.func99 rfl (by kernel_rfl) mix (k99 0) (Nat.le_of_ble_eq_true l) h
noncomputable def c100 (nb : Nat) : SC :=
 .seq (
 .ops [sop nb 2 (.box 115 (qt 0)) 0,
 sop nb 3 (.assign (.const (.bool false))) 4]) (
 .seq (
 .ops [sop nb 4 (.fieldAddr 24 (qt 1) 0) 0,
 qld nb 5 3 4,
 qbo nb 6 .sub 3 5 (qi 1) 3 3,
 sop nb 7 (.fieldAddr 115 (qt 2) 0) 0,
 qld nb 8 3 7,
 sop nb 9 (.fieldAddr 115 (qt 2) 1) 0,
 qld nb 10 3 9,
 sop nb 11 (.buildSlice 26 2 #[(0, qt 8), (1, qt 10)]) 26,
 qcl nb 12 87 #[qi 0, qt 6, qt 11] #[3, 3, 26] 4,
 sop nb 13 (.unOp .not 4 (qt 12)) 4,
 qsg nb 3 13 4]) (
 .ret))
@[go_sem] theorem rs100 : Go.Proofs.Try.f100.results.toList = [.tmp 3] := by kernel_rfl
theorem en100 : Enters Q 100 := enters_of Go.Proofs.Try.func100 rfl (by kernel_rfl)
theorem k100 (nb : Nat) : sk nb Go.Proofs.Try.f100.ntmps (Go.Proofs.Try.f100.body.getD .skip) = some (c100 nb) := by kernel_rfl
theorem w100 {a : List Arg} {r : RV} (h : W Q (c100 0) [] ⟨ρ0 (a.map fun a => a.m.lv), h0⟩ (retG Q Go.Proofs.Try.f100.results.toList (retF r))) (l : Nat.ble a.length Go.Proofs.Try.f100.ntmps = true := by kernel_rfl) : Fn Q 100 a r := fn_intro Go.Proofs.Try.func100 rfl (by kernel_rfl) mix (k100 0) (Nat.le_of_ble_eq_true l) h
noncomputable def c101 (nb : Nat) : SC :=
 .seq (
 .ops [sop nb 2 (.box 115 (qt 0)) 0,
 sop nb 3 (.assign (.const (.bool false))) 4]) (
 .seq (
 .ops [qld nb 4 163 1,
 qld nb 5 115 2,
 sop nb 6 (.call { callee := .value (qt 4), args := #[qt 5], argTypes := #[115] }) 4,
 qmv nb 7 6 4,
 gop nb 8 (.fieldAddr 115 (qt 2) 0) 0 7 false,
 gop nb 9 (.load 3 (qt 8)) 3 7 false,
 gop nb 10 (.fieldAddr 115 (qt 2) 1) 0 7 false,
 gop nb 11 (.load 3 (qt 10)) 3 7 false,
 gop nb 12 (.binOp .eql 3 (qt 9) (qt 11) 3) 4 7 false,
 sop nb 13 (.pick (qt 7) (.const (.bool true)) (qt 12)) 4,
 qsg nb 3 13 4]) (
 .ret))
@[go_sem] theorem rs101 : Go.Proofs.Try.f101.results.toList = [.tmp 3] := by kernel_rfl
theorem en101 : Enters Q 101 := enters_of Go.Proofs.Try.func101 rfl (by kernel_rfl)
theorem k101 (nb : Nat) : sk nb Go.Proofs.Try.f101.ntmps (Go.Proofs.Try.f101.body.getD .skip) = some (c101 nb) := by kernel_rfl
theorem w101 {a : List Arg} {r : RV} (h : W Q (c101 0) [] ⟨ρ0 (a.map fun a => a.m.lv), h0⟩ (retG Q Go.Proofs.Try.f101.results.toList (retF r))) (l : Nat.ble a.length Go.Proofs.Try.f101.ntmps = true := by kernel_rfl) : Fn Q 101 a r := fn_intro Go.Proofs.Try.func101 rfl (by kernel_rfl) mix (k101 0) (Nat.le_of_ble_eq_true l) h
noncomputable def c102 (nb : Nat) : SC :=
 .seq (
 .ops [sop nb 4 (.assign (.const (.bool false))) 4]) (
 .seq (
 .ops [qmv nb 5 0 22,
 qmv nb 6 1 163,
 qcl nb 7 111 #[qt 5, qt 6] #[22, 163] 3,
 qbo nb 8 .geq 3 7 (qi 0) 3 4,
 qsg nb 4 8 4]) (
 .ret))
@[go_sem] theorem rs102 : Go.Proofs.Try.f102.results.toList = [.tmp 4] := by kernel_rfl
theorem k102 (nb : Nat) : sk nb Go.Proofs.Try.f102.ntmps (Go.Proofs.Try.f102.body.getD .skip) = some (c102 nb) := by kernel_rfl
theorem w102 {a : List Arg} {r : RV} (h : W Q (c102 0) [] ⟨ρ0 (a.map fun a => a.m.lv), h0⟩ (retG Q Go.Proofs.Try.f102.results.toList (retF r))) (l : Nat.ble a.length Go.Proofs.Try.f102.ntmps = true := by kernel_rfl) : Fn Q 102 a r := fn_intro Go.Proofs.Try.func102 rfl (by kernel_rfl) mix (k102 0) (Nat.le_of_ble_eq_true l) h
noncomputable def c104 (nb : Nat) : SC :=
 .seq (
 .ops [sop nb 3 (.assign (.const (.bool false))) 4]) (
 .seq (
 .ops [qld nb 4 108 1,
 qmv nb 5 0 26,
 qcl nb 6 86 #[qt 4, qt 5, (.const (.slice none 0 0))] #[108, 26, 26] 4,
 sop nb 7 (.unOp .not 4 (qt 6)) 4,
 qsg nb 3 7 4]) (
 .ret))
@[go_sem] theorem rs104 : Go.Proofs.Try.f104.results.toList = [.tmp 3] := by kernel_rfl
theorem en104 : Enters Q 104 := enters_of Go.Proofs.Try.func104 rfl (by kernel_rfl)
theorem k104 (nb : Nat) : sk nb Go.Proofs.Try.f104.ntmps (Go.Proofs.Try.f104.body.getD .skip) = some (c104 nb) := by kernel_rfl
theorem w104 {a : List Arg} {r : RV} (h : W Q (c104 0) [] ⟨ρ0 (a.map fun a => a.m.lv), h0⟩ (retG Q Go.Proofs.Try.f104.results.toList (retF r))) (l : Nat.ble a.length Go.Proofs.Try.f104.ntmps = true := by kernel_rfl) : Fn Q 104 a r := fn_intro Go.Proofs.Try.func104 rfl (by kernel_rfl) mix (k104 0) (Nat.le_of_ble_eq_true l) h
noncomputable def c105 (nb : Nat) : SC :=
 .seq (
 .ops [sop nb 4 (.assign (.const (.bool false))) 4]) (
 .seq (
 .ops [qmv nb 5 0 26,
 qmv nb 6 1 167,
 qcl nb 7 112 #[qt 5, qt 6] #[26, 167] 3,
 qbo nb 8 .geq 3 7 (qi 0) 3 4,
 qsg nb 4 8 4]) (
 .ret))
@[go_sem] theorem rs105 : Go.Proofs.Try.f105.results.toList = [.tmp 4] := by kernel_rfl
theorem k105 (nb : Nat) : sk nb Go.Proofs.Try.f105.ntmps (Go.Proofs.Try.f105.body.getD .skip) = some (c105 nb) := by kernel_rfl
theorem w105 {a : List Arg} {r : RV} (h : W Q (c105 0) [] ⟨ρ0 (a.map fun a => a.m.lv), h0⟩ (retG Q Go.Proofs.Try.f105.results.toList (retF r))) (l : Nat.ble a.length Go.Proofs.Try.f105.ntmps = true := by kernel_rfl) : Fn Q 105 a r := fn_intro Go.Proofs.Try.func105 rfl (by kernel_rfl) mix (k105 0) (Nat.le_of_ble_eq_true l) h
noncomputable def c106 (nb : Nat) : SC :=
 .seq (
 .ops [sop nb 4 (.assign (.const (.bool false))) 4]) (
 .seq (
 .ops [qld nb 5 108 1,
 sop nb 6 (.nilCheck (qt 5)) 0,
 sop nb 7 (.fieldAddr 123 (qt 6) 0) 0,
 sop nb 8 (.fieldAddr 24 (qt 7) 0) 0,
 qld nb 9 3 8,
 qbo nb 10 .sub 3 9 (qi 1) 3 3,
 qmv nb 11 0 3,
 sop nb 12 (.buildSlice 26 1 #[(0, qt 11)]) 26,
 qcl nb 13 87 #[qi 0, qt 10, qt 12] #[3, 3, 26] 4,
 sop nb 14 (.unOp .not 4 (qt 13)) 4,
 qmv nb 15 14 4,
 gop nb 16 (.load 26 (qt 2)) 26 15 true,
 gop nb 17 (.move (qt 0)) 3 15 true,
 gop nb 18 (.call { callee := .value (.func 107), args := #[qt 16, qt 17], argTypes := #[26, 3] }) 4 15 true,
 gop nb 19 (.unOp .not 4 (qt 18)) 4 15 true,
 sop nb 20 (.pick (qt 15) (qt 19) (.const (.bool false))) 4,
 qsg nb 4 20 4]) (
 .ret))
@[go_sem] theorem rs106 : Go.Proofs.Try.f106.results.toList = [.tmp 4] := by kernel_rfl
theorem en106 : Enters Q 106 := enters_of Go.Proofs.Try.func106 rfl (by kernel_rfl)
theorem k106 (nb : Nat) : sk nb Go.Proofs.Try.f106.ntmps (Go.Proofs.Try.f106.body.getD .skip) = some (c106 nb) := by kernel_rfl
theorem w106 {a : List Arg} {r : RV} (h : W Q (c106 0) [] ⟨ρ0 (a.map fun a => a.m.lv), h0⟩ (retG Q Go.Proofs.Try.f106.results.toList (retF r))) (l : Nat.ble a.length Go.Proofs.Try.f106.ntmps = true := by kernel_rfl) : Fn Q 106 a r := fn_intro Go.Proofs.Try.func106 rfl (by kernel_rfl) mix (k106 0) (Nat.le_of_ble_eq_true l) h
noncomputable def c107 (nb : Nat) : SC :=
 .seq (
 .ops [sop nb 4 (.assign (.const (.bool false))) 4]) (
 .seq (
 .ops [qmv nb 5 0 26,
 qmv nb 6 1 3,
 qcl nb 7 113 #[qt 5, qt 6] #[26, 3] 3,
 qbo nb 8 .geq 3 7 (qi 0) 3 4,
 qsg nb 4 8 4]) (
 .ret))
@[go_sem] theorem rs107 : Go.Proofs.Try.f107.results.toList = [.tmp 4] := by kernel_rfl
theorem k107 (nb : Nat) : sk nb Go.Proofs.Try.f107.ntmps (Go.Proofs.Try.f107.body.getD .skip) = some (c107 nb) := by kernel_rfl
theorem w107 {a : List Arg} {r : RV} (h : W Q (c107 0) [] ⟨ρ0 (a.map fun a => a.m.lv), h0⟩ (retG Q Go.Proofs.Try.f107.results.toList (retF r))) (l : Nat.ble a.length Go.Proofs.Try.f107.ntmps = true := by kernel_rfl) : Fn Q 107 a r := fn_intro Go.Proofs.Try.func107 rfl (by kernel_rfl) mix (k107 0) (Nat.le_of_ble_eq_true l) h
end S07

namespace S07
open Go Abs
noncomputable def c108 (nb : Nat) : SC :=
 .seq (
 .ops [sop nb 4 (.assign (.const (.bool false))) 4]) (
 .seq (
 .ops [qmv nb 5 0 3,
 qld nb 6 3 1,
 qbo nb 7 .lss 3 5 (qt 6) 3 4,
 qmv nb 8 7 4,
 gop nb 9 (.move (qt 0)) 3 8 false,
 gop nb 10 (.load 3 (qt 2)) 3 8 false,
 gop nb 11 (.binOp .gtr 3 (qt 9) (qt 10) 3) 4 8 false,
 sop nb 12 (.pick (qt 8) (.const (.bool true)) (qt 11)) 4,
 qsg nb 4 12 4]) (
 .ret))
@[go_sem] theorem rs108 : Go.Proofs.Try.f108.results.toList = [.tmp 4] := by kernel_rfl
theorem en108 : Enters Q 108 := enters_of Go.Proofs.Try.func108 rfl (by kernel_rfl)
theorem k108 (nb : Nat) : sk nb Go.Proofs.Try.f108.ntmps (Go.Proofs.Try.f108.body.getD .skip) = some (c108 nb) := by kernel_rfl
theorem w108 {a : List Arg} {r : RV} (h : W Q (c108 0) [] ⟨ρ0 (a.map fun a => a.m.lv), h0⟩ (retG Q Go.Proofs.Try.f108.results.toList (retF r))) (l : Nat.ble a.length Go.Proofs.Try.f108.ntmps = true := by kernel_rfl) : Fn Q 108 a r := fn_intro Go.Proofs.Try.func108 rfl (by kernel_rfl) mix (k108 0) (Nat.le_of_ble_eq_true l) h
noncomputable def c109 (nb : Nat) : SC :=
 .seq (
 .ops [sop nb 4 (.assign (qi 0)) 3]) (
 .seq (
 .seq (
 .ops [qmv nb 6 0 25,
 qln nb 7 #[qt 6] #[25] 3,
 sop nb 8 (.move (qi 0)) 3]) (
 .block 0 (
  .loop (
   .seq (
   .ops [qbo nb 9 .lss 3 8 (qt 7) 3 0]) (
   .seq (
   .cond (qt 9) (
    .skip) (
    .exit 0)) (
   .seq (
   .block 1 (
    .seq (
    .ops [qmv nb 10 8 3,
 qsg nb 5 10 3]) (
    .seq (
    .ops [qmv nb 11 1 154,
 qmv nb 12 0 25,
 qmv nb 13 5 3,
 qix nb 14 25 12 13 0,
 qld nb 15 26 14,
 sop nb 16 (.call { callee := .value (qt 11), args := #[qt 15], argTypes := #[26] }) 4]) (
    .cond (qt 16) (
     .seq (
     .ops [qmv nb 17 5 3,
 qsg nb 4 17 3]) (
     .ret)) (
     .skip))))) (
   .ops [qbo nb 18 .add 3 8 (qi 1) 3 3,
 qmv nb 8 18 3]))))))) (
 .seq (
 .ops [sop nb 4 (.assign (qi (-1))) 3]) (
 .ret)))
@[go_sem] theorem rs109 : Go.Proofs.Try.f109.results.toList = [.tmp 4] := by kernel_rfl
theorem k109 (nb : Nat) : sk nb Go.Proofs.Try.f109.ntmps (Go.Proofs.Try.f109.body.getD .skip) = some (c109 nb) := by kernel_rfl
theorem w109 {a : List Arg} {r : RV} (h : W Q (c109 0) [] ⟨ρ0 (a.map fun a => a.m.lv), h0⟩ (retG Q Go.Proofs.Try.f109.results.toList (retF r))) (l : Nat.ble a.length Go.Proofs.Try.f109.ntmps = true := by kernel_rfl) : Fn Q 109 a r := fn_intro Go.Proofs.Try.func109 rfl (by kernel_rfl) mix (k109 0) (Nat.le_of_ble_eq_true l) h
noncomputable def c110 (nb : Nat) : SC :=
 .seq (
 .seq (
 .ops [qmv nb 8 0 169,
 qld nb 9 3 1,
 sop nb 10 (.build 141 #[(0, qi 0), (1, qt 9)]) 141,
 qld nb 11 3 1,
 sop nb 12 (.call { callee := .value (qt 8), args := #[qt 10, qt 11], argTypes := #[141, 3] }) 4,
 sop nb 13 (.unOp .not 4 (qt 12)) 4,
 qmv nb 14 13 4,
 gop nb 15 (.move (qt 0)) 169 14 false,
 gop nb 16 (.load 3 (qt 1)) 3 14 false,
 gop nb 17 (.build 141 #[(0, qi 1), (1, qt 16)]) 141 14 false,
 gop nb 18 (.load 108 (qt 2)) 108 14 false,
 gop nb 19 (.load 3 (qt 1)) 3 14 false,
 gop nb 20 (.nilCheck (qt 18)) 0 14 false,
 gop nb 21 (.fieldAddr 123 (qt 20) 1) 0 14 false,
 gop nb 22 (.indexAddr 120 (qt 21) (qt 19)) 0 14 false,
 gop nb 23 (.load 3 (qt 22)) 3 14 false,
 gop nb 24 (.call { callee := .value (qt 15), args := #[qt 17, qt 23], argTypes := #[141, 3] }) 4 14 false,
 gop nb 25 (.unOp .not 4 (qt 24)) 4 14 false,
 sop nb 26 (.pick (qt 14) (.const (.bool true)) (qt 25)) 4]) (
 .cond (qt 26) (
  .ret) (
  .skip))) (
 .seq (
 .ops [sop nb 27 (.buildSlice 82 2 #[(0, qi 2), (1, qi 3)]) 82,
 qln nb 28 #[qt 27] #[82] 3,
 sop nb 29 (.move (qi 0)) 3]) (
 .block 0 (
  .loop (
   .seq (
   .ops [qbo nb 30 .lss 3 29 (qt 28) 3 0]) (
   .seq (
   .cond (qt 30) (
    .skip) (
    .exit 0)) (
   .seq (
   .block 1 (
    .seq (
    .ops [qix nb 31 82 27 29 0,
 qld nb 32 76 31,
 qsg nb 5 32 76]) (
    .seq (
    .ops [qld nb 33 108 2,
 sop nb 34 (.nilCheck (qt 33)) 0,
 sop nb 35 (.fieldAddr 123 (qt 34) 0) 0,
 sop nb 36 (.fieldAddr 24 (qt 35) 0) 0,
 qld nb 37 3 36,
 sop nb 38 (.move (qi 0)) 3]) (
    .block 2 (
     .loop (
      .seq (
      .ops [qbo nb 39 .lss 3 38 (qt 37) 3 4]) (
      .seq (
      .cond (qt 39) (
       .skip) (
       .exit 2)) (
      .seq (
      .block 3 (
       .seq (
       .ops [qmv nb 40 38 3,
 qsg nb 6 40 3]) (
       .seq (
       .seq (
       .ops [qld nb 41 108 2,
 sop nb 42 (.nilCheck (qt 41)) 0,
 sop nb 43 (.fieldAddr 123 (qt 42) 2) 0,
 qld nb 44 121 43,
 qld nb 45 3 1,
 qmv nb 46 6 3,
 sop nb 47 (.build 115 #[(0, qt 45), (1, qt 46)]) 115,
 sop nb 48 (.lookup 121 (qt 44) (qt 47) false) 4,
 sop nb 49 (.unOp .not 4 (qt 48)) 4]) (
       .cond (qt 49) (
        .exit 3) (
        .skip))) (
       .seq (
       .ops [qmv nb 50 6 3,
 qsg nb 7 50 3]) (
       .seq (
       .seq (
       .ops [qmv nb 51 5 76,
 qbo nb 52 .eql 76 51 (qi 3) 76 4]) (
       .cond (qt 52) (
        .ops [qld nb 53 108 2,
 qmv nb 54 6 3,
 sop nb 55 (.nilCheck (qt 53)) 0,
 sop nb 56 (.fieldAddr 123 (qt 55) 1) 0,
 qix nb 57 120 56 54 0,
 qld nb 58 3 57,
 qsg nb 7 58 3]) (
        .skip))) (
       .seq (
       .ops [qmv nb 59 0 169,
 qmv nb 60 5 76,
 qmv nb 61 6 3,
 sop nb 62 (.build 141 #[(0, qt 60), (1, qt 61)]) 141,
 qmv nb 63 7 3,
 sop nb 64 (.call { callee := .value (qt 59), args := #[qt 62, qt 63], argTypes := #[141, 3] }) 4,
 sop nb 65 (.unOp .not 4 (qt 64)) 4]) (
       .cond (qt 65) (
        .ret) (
        .skip)))))))) (
      .ops [qbo nb 66 .add 3 38 (qi 1) 3 3,
 qmv nb 38 66 3]))))))))) (
   .ops [qbo nb 67 .add 3 29 (qi 1) 3 3,
 qmv nb 29 67 3])))))))
@[go_sem] theorem rs110 : Go.Proofs.Try.f110.results.toList = [] := by kernel_rfl
theorem k110 (nb : Nat) : sk nb Go.Proofs.Try.f110.ntmps (Go.Proofs.Try.f110.body.getD .skip) = some (c110 nb) := by kernel_rfl
noncomputable def c111 (nb : Nat) : SC :=
 .seq (
 .ops [sop nb 4 (.assign (qi 0)) 3]) (
 .seq (
 .seq (
 .ops [qmv nb 6 0 22,
 qln nb 7 #[qt 6] #[22] 3,
 sop nb 8 (.move (qi 0)) 3]) (
 .block 0 (
  .loop (
   .seq (
   .ops [qbo nb 9 .lss 3 8 (qt 7) 3 0]) (
   .seq (
   .cond (qt 9) (
    .skip) (
    .exit 0)) (
   .seq (
   .block 1 (
    .seq (
    .ops [qmv nb 10 8 3,
 qsg nb 5 10 3]) (
    .seq (
    .ops [qmv nb 11 1 163,
 qmv nb 12 0 22,
 qmv nb 13 5 3,
 qix nb 14 22 12 13 0,
 qld nb 15 115 14,
 sop nb 16 (.call { callee := .value (qt 11), args := #[qt 15], argTypes := #[115] }) 4]) (
    .cond (qt 16) (
     .seq (
     .ops [qmv nb 17 5 3,
 qsg nb 4 17 3]) (
     .ret)) (
     .skip))))) (
   .ops [qbo nb 18 .add 3 8 (qi 1) 3 3,
 qmv nb 8 18 3]))))))) (
 .seq (
 .ops [sop nb 4 (.assign (qi (-1))) 3]) (
 .ret)))
@[go_sem] theorem rs111 : Go.Proofs.Try.f111.results.toList = [.tmp 4] := by kernel_rfl
theorem k111 (nb : Nat) : sk nb Go.Proofs.Try.f111.ntmps (Go.Proofs.Try.f111.body.getD .skip) = some (c111 nb) := by kernel_rfl
theorem w111 {a : List Arg} {r : RV} (h : W Q (c111 0) [] ⟨ρ0 (a.map fun a => a.m.lv), h0⟩ (retG Q Go.Proofs.Try.f111.results.toList (retF r))) (l : Nat.ble a.length Go.Proofs.Try.f111.ntmps = true := by kernel_rfl) : Fn Q 111 a r := fn_intro Go.Proofs.Try.func111 rfl (by kernel_rfl) mix (k111 0) (Nat.le_of_ble_eq_true l) h
noncomputable def c112 (nb : Nat) : SC :=
 .seq (
 .ops [sop nb 4 (.assign (qi 0)) 3]) (
 .seq (
 .seq (
 .ops [qmv nb 6 0 26,
 qln nb 7 #[qt 6] #[26] 3,
 sop nb 8 (.move (qi 0)) 3]) (
 .block 0 (
  .loop (
   .seq (
   .ops [qbo nb 9 .lss 3 8 (qt 7) 3 0]) (
   .seq (
   .cond (qt 9) (
    .skip) (
    .exit 0)) (
   .seq (
   .block 1 (
    .seq (
    .ops [qmv nb 10 8 3,
 qsg nb 5 10 3]) (
    .seq (
    .ops [qmv nb 11 1 167,
 qmv nb 12 0 26,
 qmv nb 13 5 3,
 qix nb 14 26 12 13 0,
 qld nb 15 3 14,
 sop nb 16 (.call { callee := .value (qt 11), args := #[qt 15], argTypes := #[3] }) 4]) (
    .cond (qt 16) (
     .seq (
     .ops [qmv nb 17 5 3,
 qsg nb 4 17 3]) (
     .ret)) (
     .skip))))) (
   .ops [qbo nb 18 .add 3 8 (qi 1) 3 3,
 qmv nb 8 18 3]))))))) (
 .seq (
 .ops [sop nb 4 (.assign (qi (-1))) 3]) (
 .ret)))
@[go_sem] theorem rs112 : Go.Proofs.Try.f112.results.toList = [.tmp 4] := by kernel_rfl
theorem k112 (nb : Nat) : sk nb Go.Proofs.Try.f112.ntmps (Go.Proofs.Try.f112.body.getD .skip) = some (c112 nb) := by kernel_rfl
theorem w112 {a : List Arg} {r : RV} (h : W Q (c112 0) [] ⟨ρ0 (a.map fun a => a.m.lv), h0⟩ (retG Q Go.Proofs.Try.f112.results.toList (retF r))) (l : Nat.ble a.length Go.Proofs.Try.f112.ntmps = true := by kernel_rfl) : Fn Q 112 a r := fn_intro Go.Proofs.Try.func112 rfl (by kernel_rfl) mix (k112 0) (Nat.le_of_ble_eq_true l) h
noncomputable def c113 (nb : Nat) : SC :=
 .seq (
 .ops [sop nb 4 (.assign (qi 0)) 3]) (
 .seq (
 .seq (
 .ops [qmv nb 6 0 26,
 qln nb 7 #[qt 6] #[26] 3,
 sop nb 8 (.move (qi 0)) 3]) (
 .block 0 (
  .loop (
   .seq (
   .ops [qbo nb 9 .lss 3 8 (qt 7) 3 0]) (
   .seq (
   .cond (qt 9) (
    .skip) (
    .exit 0)) (
   .seq (
   .block 1 (
    .seq (
    .ops [qmv nb 10 8 3,
 qsg nb 5 10 3]) (
    .seq (
    .ops [qmv nb 11 1 3,
 qmv nb 12 0 26,
 qmv nb 13 5 3,
 qix nb 14 26 12 13 0,
 qld nb 15 3 14,
 qbo nb 16 .eql 3 11 (qt 15) 3 4]) (
    .cond (qt 16) (
     .seq (
     .ops [qmv nb 17 5 3,
 qsg nb 4 17 3]) (
     .ret)) (
     .skip))))) (
   .ops [qbo nb 18 .add 3 8 (qi 1) 3 3,
 qmv nb 8 18 3]))))))) (
 .seq (
 .ops [sop nb 4 (.assign (qi (-1))) 3]) (
 .ret)))
@[go_sem] theorem rs113 : Go.Proofs.Try.f113.results.toList = [.tmp 4] := by kernel_rfl
theorem k113 (nb : Nat) : sk nb Go.Proofs.Try.f113.ntmps (Go.Proofs.Try.f113.body.getD .skip) = some (c113 nb) := by kernel_rfl
theorem w113 {a : List Arg} {r : RV} (h : W Q (c113 0) [] ⟨ρ0 (a.map fun a => a.m.lv), h0⟩ (retG Q Go.Proofs.Try.f113.results.toList (retF r))) (l : Nat.ble a.length Go.Proofs.Try.f113.ntmps = true := by kernel_rfl) : Fn Q 113 a r := fn_intro Go.Proofs.Try.func113 rfl (by kernel_rfl) mix (k113 0) (Nat.le_of_ble_eq_true l) h
end S07

