/- A part of the proof: H07d, C07le0. -/
import Derived.Test.YtmanbdacloeioaaP07c
import Derived.Test.YtmanbdacloeioaaP07a
import Derived.Test.YtmanbdacloeioaaF07
set_option linter.unusedVariables false
set_option linter.unusedSimpArgs false
set_option maxRecDepth 20000
namespace S07
open Go Abs
theorem and_three (a : Int) : binV .and (.int .i64 a) (.int .i64 3) = some (.int .i64 (a % 4)) := by
  have h1 : (BitVec.ofInt 64 a &&& BitVec.ofInt 64 3).toNat = (a % 4).toNat := by
    rw [BitVec.toNat_and, BitVec.toNat_ofInt, BitVec.toNat_ofInt]
    have : ((3 : Int) % ((2 ^ 64 : Nat) : Int)).toNat = 2 ^ 2 - 1 := by decide
    rw [this, Nat.and_two_pow_sub_one_eq_mod]
    have h2 : 0 ≤ a % ((2 ^ 64 : Nat) : Int) := Int.emod_nonneg _ (by decide)
    have h3 : a % ((2 ^ 64 : Nat) : Int) % 4 = a % 4 := Int.emod_emod_of_dvd a (by decide)
    omega
  show (if IntKind.i64 = IntKind.i64 then some (Value.int .i64 (IntKind.i64.wrap ((BitVec.ofInt 64 a &&& BitVec.ofInt 64 3).toNat : Nat))) else none) = _
  rw [if_pos rfl, h1, wr _ (by omega) (by omega)]
  congr 2
  omega
theorem t77 {st : FV} {N : Int} {hs al : FV} {H A : List (Int × Int)} (v : SetV st N hs al H A) (lA : A.length ≤ 1000000) (x : Int) :
    Fn Q 77 [.fo st, .fo (.int x)] (.one (.fx (.list false (ints (aliF A x))))) := by
  obtain ⟨rfl, hH, hA, _, _⟩ := v
  have o1 := ls_one hH
  have o2 := ls_one hA
  refine fn_intro Go.Proofs.Try.func77 rfl (by kernel_rfl) mix (k77 0) (Nat.le_of_ble_eq_true (by kernel_rfl)) ?_
  refine Abs.walk ?_
  unfold c77 sop
  simp -implicitDefEqProofs only [go_sem, simprocAttr, o1, o2]
  refine lpL (β := List Int) 9 [5, 6, 7] 9 [7, 8] A (by omega) (fun r k acc => aliF A x = acc ++ aliF r x ∧ acc.length ≤ k) (fun k acc ρ h => ρ 6 = .fv (.int k) ∧ ρ 5 = .gl 8 (h.gen 8) ∧ h.obj 8 = some (.list 3 1 false false (ints acc))) [] ⟨rfl, by simp⟩ (by simp -implicitDefEqProofs only [go_sem, simprocAttr, ints]) ?_ ?_
  · rintro acc ρ h ⟨e, _⟩ ⟨r6, r5, o8⟩
    simp only [aliF, List.append_nil] at e
    simp -implicitDefEqProofs only [go_sem, simprocAttr, r6, r5, lenV_ls hA, List.length_map]
    exact ret_fx (fun _ => true) (by simp -implicitDefEqProofs only [go_sem, simprocAttr, o8, e])
  · rintro p ys k acc ρ h hx hk hm hk' hw ⟨e, la⟩ ⟨r6, r5, o8⟩
    by_cases e1 : x = p.1
    · have b1 : (x == p.1) = true := by simpa using e1
      simp -implicitDefEqProofs only [go_sem, simprocAttr, r6, r5, lenV_ls hA, List.length_map, hk', index_map hA idx_22 hx rfl, pF, b1]
      refine app_gl (by simp -implicitDefEqProofs only [go_sem, simprocAttr, o8]; rfl) idx_26 (by simp -implicitDefEqProofs only [go_sem, simprocAttr]; rfl) (by simp [FV.cells]) (by simp -implicitDefEqProofs only [go_sem, simprocAttr]) (by simp [byt_3, ints]; omega) (by simp [maxLen, ints]; omega) (by simp) ?_
      simp -implicitDefEqProofs only [go_sem, simprocAttr, r6, hw]
      refine nxtL (acc ++ [p.2]) ⟨by rw [e]; simp [aliF, e1], by simp; omega⟩ ?_
      simp -implicitDefEqProofs only [go_sem, simprocAttr, ints, List.map_append]
    · have b1 : (x == p.1) = false := by simpa using e1
      by_cases e2 : x = p.2
      · have b2 : (x == p.2) = true := by simpa using e2
        have e3 : ¬ p.2 = p.1 := e2 ▸ e1
        simp -implicitDefEqProofs only [go_sem, simprocAttr, r6, r5, lenV_ls hA, List.length_map, hk', index_map hA idx_22 hx rfl, pF, b1, b2]
        refine app_gl (by simp -implicitDefEqProofs only [go_sem, simprocAttr, o8]; rfl) idx_26 (by simp -implicitDefEqProofs only [go_sem, simprocAttr]; rfl) (by simp [FV.cells]) (by simp -implicitDefEqProofs only [go_sem, simprocAttr]) (by simp [byt_3, ints]; omega) (by simp [maxLen, ints]; omega) (by simp) ?_
        simp -implicitDefEqProofs only [go_sem, simprocAttr, r6, hw]
        refine nxtL (acc ++ [p.1]) ⟨by rw [e]; simp [aliF, e2, e3], by simp; omega⟩ ?_
        simp -implicitDefEqProofs only [go_sem, simprocAttr, ints, List.map_append]
      · have b2 : (x == p.2) = false := by simpa using e2
        simp -implicitDefEqProofs only [go_sem, simprocAttr, r6, r5, lenV_ls hA, List.length_map, hk', index_map hA idx_22 hx rfl, pF, b1, b2]
        simp -implicitDefEqProofs only [go_sem, simprocAttr, r6, r5, hw]
        refine nxtL acc ⟨by rw [e]; simp [aliF, e1, e2], by omega⟩ ?_
        simp -implicitDefEqProofs only [go_sem, simprocAttr, o8, r5]
theorem t44 {st : FV} {N : Int} {hs al : FV} {H A : List (Int × Int)} (v : SetV st N hs al H A) (lA : A.length ≤ 1000000) (l : Int) {b : Int} (b0 : 0 ≤ b) (b1 : b < 256) :
    Fn Q 44 [.fo st, .fo (.int l), .fo (u8 b)] (.tup [.fx (.int (layP H A l b).1), .fx (.int (layP H A l b).2.1), .fx (.int (layP H A l b).2.2.1), .fx (.int (layP H A l b).2.2.2)]) := by
  have c77 := t77 v lA l
  have c50 := fun x => t50 v x
  obtain ⟨rfl, hH, hA, _, _⟩ := v
  have o1 := ls_one hH
  have o2 := ls_one hA
  have hal := aliF_len A l
  unfold layP
  dsimp only
  generalize aliF A l = L at *
  have wb : IntKind.i64.wrap b = b := wr _ (by omega) (by omega)
  have m4 : b.tmod 4 = b % 4 := Int.tmod_eq_emod_of_nonneg b0
  have m2 : b.tmod 2 = b % 2 := Int.tmod_eq_emod_of_nonneg b0
  have d4 : b.tdiv 4 = b / 4 := Int.tdiv_eq_ediv_of_nonneg b0
  have n4 : (0 : Int) ≤ b / 4 ∧ b / 4 < 64 := by omega
  have w4 : IntKind.i64.wrap (b / 4) = b / 4 := wr _ (by omega) (by omega)
  by_cases hb : 2 ≤ b % 4 ∧ 0 < L.length
  · have tk : (decide (2 ≤ b % 4) && decide (0 < L.length)) = true := by simp [hb.1, hb.2]
    have q1 : (0 : Int) < (L.length : Nat) := by omega
    have L0 : ¬ (((L.length : Nat) : Int) = 0) := by omega
    have m0 := Int.emod_nonneg (b / 4) L0
    have m1 := Int.emod_lt_of_pos (b / 4) q1
    have mt : (b / 4).tmod (L.length : Nat) = b / 4 % (L.length : Nat) := Int.tmod_eq_emod_of_nonneg n4.1
    have wm : IntKind.i64.wrap (b / 4 % (L.length : Nat)) = b / 4 % (L.length : Nat) := wr _ (by omega) (by omega)
    have gi : (ints L)[(b / 4 % (L.length : Nat)).toNat]? = some (.int (L.getD (b / 4 % (L.length : Nat)).toNat 0)) := by
      simp [ints, List.getD_eq_getElem?_getD, List.getElem?_eq_getElem (show (b / 4 % (L.length : Nat)).toNat < L.length by omega)]
    rw [tk]
    simp only [if_true]
    generalize L.getD (b / 4 % (L.length : Nat)).toNat 0 = o at *
    have c50o := c50 o
    by_cases hb2 : b % 2 = 1
    · have e2 : (b % 2 == 1) = true := by simpa using hb2
      rw [if_pos hb2]
      refine fn_intro Go.Proofs.Try.func44 rfl (by kernel_rfl) mix (k44 0) (Nat.le_of_ble_eq_true (by kernel_rfl)) ?_
      refine Abs.walk ?_
      unfold c44 sop
      simp -implicitDefEqProofs only [go_sem, simprocAttr, o1, o2, u8]
      refine call1 [] false (c77) ?_
      simp -implicitDefEqProofs only [go_sem, simprocAttr, ints_len, m4, hb.1, q1]
      refine W_opsD _ _ _ (Vs []) ?_ ?_
      · decide
      simp -implicitDefEqProofs only [go_sem, simprocAttr, ints_len, L0, wb, d4, w4, mt, wm, m0, m1, gi, m2, e2]
      refine call1 [] false (c50o) ?_
      simp -implicitDefEqProofs only [go_sem, simprocAttr]
      exact ret_tup (fun _ => true) (by simp -implicitDefEqProofs only [go_sem, simprocAttr]) (by simp [ownNames])
    · have e2 : (b % 2 == 1) = false := by simpa using hb2
      rw [if_neg hb2]
      refine fn_intro Go.Proofs.Try.func44 rfl (by kernel_rfl) mix (k44 0) (Nat.le_of_ble_eq_true (by kernel_rfl)) ?_
      refine Abs.walk ?_
      unfold c44 sop
      simp -implicitDefEqProofs only [go_sem, simprocAttr, o1, o2, u8]
      refine call1 [] false (c77) ?_
      simp -implicitDefEqProofs only [go_sem, simprocAttr, ints_len, m4, hb.1, q1]
      refine W_opsD _ _ _ (Vs []) ?_ ?_
      · decide
      simp -implicitDefEqProofs only [go_sem, simprocAttr, ints_len, L0, wb, d4, w4, mt, wm, m0, m1, gi, m2, e2]
      exact ret_tup (fun _ => true) (by simp -implicitDefEqProofs only [go_sem, simprocAttr]) (by simp [ownNames])
  · have tk : (decide (2 ≤ b % 4) && decide (0 < L.length)) = false := by
      rw [Bool.and_eq_false_iff]
      by_cases h1 : 2 ≤ b % 4
      · right
        have : ¬ 0 < L.length := fun h => hb ⟨h1, h⟩
        simpa using this
      · left; simpa using h1
    rw [tk]
    simp only [Bool.false_eq_true, if_false]
    have q1 : ¬ (2 ≤ b % 4) ∨ (2 ≤ b % 4 ∧ ¬ ((0 : Int) < (L.length : Nat))) := by
      by_cases h1 : 2 ≤ b % 4
      · exact .inr ⟨h1, fun h => hb ⟨h1, by omega⟩⟩
      · exact .inl h1
    have c50l := c50 l
    rcases q1 with q1 | ⟨q1, q3⟩ <;> by_cases hb2 : b % 2 = 1
    · have e2 : (b % 2 == 1) = true := by simpa using hb2
      rw [if_pos hb2]
      refine fn_intro Go.Proofs.Try.func44 rfl (by kernel_rfl) mix (k44 0) (Nat.le_of_ble_eq_true (by kernel_rfl)) ?_
      refine Abs.walk ?_
      unfold c44 sop
      simp -implicitDefEqProofs only [go_sem, simprocAttr, o1, o2, u8]
      refine call1 [] false (c77) ?_
      simp -implicitDefEqProofs only [go_sem, simprocAttr, ints_len, m4, q1, m2, e2]
      refine call1 [] false (c50l) ?_
      simp -implicitDefEqProofs only [go_sem, simprocAttr]
      exact ret_tup (fun _ => true) (by simp -implicitDefEqProofs only [go_sem, simprocAttr]) (by simp [ownNames])
    · have e2 : (b % 2 == 1) = false := by simpa using hb2
      rw [if_neg hb2]
      refine fn_intro Go.Proofs.Try.func44 rfl (by kernel_rfl) mix (k44 0) (Nat.le_of_ble_eq_true (by kernel_rfl)) ?_
      refine Abs.walk ?_
      unfold c44 sop
      simp -implicitDefEqProofs only [go_sem, simprocAttr, o1, o2, u8]
      refine call1 [] false (c77) ?_
      simp -implicitDefEqProofs only [go_sem, simprocAttr, ints_len, m4, q1, m2, e2]
      exact ret_tup (fun _ => true) (by simp -implicitDefEqProofs only [go_sem, simprocAttr]) (by simp [ownNames])
    · have e2 : (b % 2 == 1) = true := by simpa using hb2
      rw [if_pos hb2]
      refine fn_intro Go.Proofs.Try.func44 rfl (by kernel_rfl) mix (k44 0) (Nat.le_of_ble_eq_true (by kernel_rfl)) ?_
      refine Abs.walk ?_
      unfold c44 sop
      simp -implicitDefEqProofs only [go_sem, simprocAttr, o1, o2, u8]
      refine call1 [] false (c77) ?_
      simp -implicitDefEqProofs only [go_sem, simprocAttr, ints_len, m4, q1, q3, m2, e2]
      refine call1 [] false (c50l) ?_
      simp -implicitDefEqProofs only [go_sem, simprocAttr]
      exact ret_tup (fun _ => true) (by simp -implicitDefEqProofs only [go_sem, simprocAttr]) (by simp [ownNames])
    · have e2 : (b % 2 == 1) = false := by simpa using hb2
      rw [if_neg hb2]
      refine fn_intro Go.Proofs.Try.func44 rfl (by kernel_rfl) mix (k44 0) (Nat.le_of_ble_eq_true (by kernel_rfl)) ?_
      refine Abs.walk ?_
      unfold c44 sop
      simp -implicitDefEqProofs only [go_sem, simprocAttr, o1, o2, u8]
      refine call1 [] false (c77) ?_
      simp -implicitDefEqProofs only [go_sem, simprocAttr, ints_len, m4, q1, q3, m2, e2]
      exact ret_tup (fun _ => true) (by simp -implicitDefEqProofs only [go_sem, simprocAttr]) (by simp [ownNames])
end S07

namespace S07
open Go Abs
/-- smalto/smaltolaw07.StencilAsked -/
noncomputable def c8 (nb : Nat) : SC :=
 .seq (
 .ops [sop nb 3 (.box 71 (.tmp 0)) 0,
 sop nb 4 (.box 91 (.tmp 1)) 0,
 sop nb 5 (.box 92 (.tmp 2)) 0,
 sop nb 6 (.assign (.const (.bool false))) 4]) (
 .seq (
 .ops [sop nb 30 (.load 71 (.tmp 3)) 71,
 sop nb 31 (.call { callee := .value (.func 42), args := #[(.tmp 30)], argTypes := #[71] }) 24,
 sop nb 32 (.buildSlice 25 0 #[]) 25,
 sop nb 7 (.alloc 24) 0,
   ⟨none, (.store 24 (.tmp 7) (.tmp 31)), 0, none, none⟩,
 sop nb 8 (.assign (.tmp 32)) 25]) (
 .seq (
 .seq (
 .ops [sop nb 9 (.assign (.const (.int .i64 0))) 3]) (
 .block 0 (
  .loop (
   .seq (
   .seq (
   .ops [sop nb 33 (.move (.tmp 9)) 3,
     sop nb 34 (.binOp .lss 3 (.tmp 33) (.const (.int .i64 5)) 3) 4]) (
   .cond (.tmp 34) (
    .skip) (
    .exit 0))) (
   .seq (
   .block 1 (
    .opsD [sop nb 37 (.move (.tmp 8)) 25,
      sop nb 38 (.load 24 (.tmp 7)) 24,
      sop nb 39 (.move (.tmp 9)) 3,
      sop nb 40 (.indexAddr 91 (.tmp 4) (.tmp 39)) 0,
      sop nb 41 (.indexAddr 90 (.tmp 40) (.const (.int .i64 0))) 0,
      sop nb 42 (.load 5 (.tmp 41)) 5,
      sop nb 43 (.move (.tmp 9)) 3,
      sop nb 44 (.indexAddr 91 (.tmp 4) (.tmp 43)) 0,
      sop nb 45 (.indexAddr 90 (.tmp 44) (.const (.int .i64 1))) 0,
      sop nb 46 (.load 5 (.tmp 45)) 5,
      sop nb 47 (.move (.tmp 9)) 3,
      sop nb 48 (.indexAddr 91 (.tmp 4) (.tmp 47)) 0,
      sop nb 49 (.indexAddr 90 (.tmp 48) (.const (.int .i64 2))) 0,
      sop nb 50 (.load 5 (.tmp 49)) 5,
      sop nb 51 (.buildSlice 72 3 #[(0, (.tmp 42)), (1, (.tmp 46)), (2, (.tmp 50))]) 72,
      sop nb 52 (.call { callee := .value (.func 43), args := #[(.tmp 38), (.tmp 51)], argTypes := #[24, 72] }) 26,
      sop nb 53 (.buildSlice 25 1 #[(0, (.tmp 52))]) 25,
      sop nb 54 (.call { callee := .builtin .append, args := #[(.tmp 37), (.tmp 53)], argTypes := #[25, 25] }) 25,
      sop nb 8 (.assign (.tmp 54)) 25] [(1, 14)])) (
   .ops [sop nb 35 (.move (.tmp 9)) 3,
     sop nb 36 (.binOp .add 3 (.tmp 35) (.const (.int .i64 1)) 3) 3,
     sop nb 9 (.assign (.tmp 36)) 3])))))) (
 .seq (
 .ops [sop nb 55 (.indexAddr 92 (.tmp 5) (.const (.int .i64 3))) 0,
 sop nb 56 (.load 5 (.tmp 55)) 5,
 sop nb 57 (.convert 5 3 (.tmp 56)) 3,
 sop nb 58 (.binOp .rem 3 (.tmp 57) (.const (.int .i64 5)) 3) 3,
 sop nb 59 (.buildSlice 26 0 #[]) 26,
 sop nb 60 (.buildSlice 26 0 #[]) 26,
 sop nb 10 (.assign (.tmp 58)) 3,
 sop nb 11 (.assign (.tmp 59)) 26,
 sop nb 12 (.assign (.tmp 60)) 26,
 sop nb 13 (.assign (.const (.int .i64 0))) 3]) (
 .seq (
 .seq (
 .ops [sop nb 14 (.assign (.const (.int .i64 0))) 3]) (
 .block 2 (
  .loop (
   .seq (
   .seq (
   .ops [sop nb 61 (.move (.tmp 14)) 3,
     sop nb 62 (.binOp .lss 3 (.tmp 61) (.const (.int .i64 3)) 3) 4]) (
   .cond (.tmp 62) (
    .skip) (
    .exit 2))) (
   .seq (
   .block 3 (
    .seq (
    .ops [sop nb 66 (.load 24 (.tmp 7)) 24,
      sop nb 67 (.move (.tmp 8)) 25,
      sop nb 68 (.move (.tmp 10)) 3,
      sop nb 69 (.indexAddr 25 (.tmp 67) (.tmp 68)) 0,
      sop nb 70 (.load 26 (.tmp 69)) 26,
      sop nb 71 (.move (.tmp 14)) 3,
      sop nb 72 (.indexAddr 26 (.tmp 70) (.tmp 71)) 0,
      sop nb 73 (.load 3 (.tmp 72)) 3,
      sop nb 74 (.move (.tmp 14)) 3,
      sop nb 75 (.indexAddr 92 (.tmp 5) (.tmp 74)) 0,
      sop nb 76 (.load 5 (.tmp 75)) 5,
      sop nb 77 (.call { callee := .value (.func 44), args := #[(.tmp 66), (.tmp 73), (.tmp 76)], argTypes := #[24, 3, 5] }) 77,
      sop nb 65 (.move (.tmp 77)) 77,
      sop nb 78 (.extract (.tmp 65) 0) 76,
      sop nb 79 (.extract (.tmp 65) 1) 3,
      sop nb 80 (.extract (.tmp 65) 2) 3,
      sop nb 81 (.extract (.tmp 65) 3) 3,
      sop nb 15 (.assign (.tmp 78)) 76,
      sop nb 16 (.assign (.tmp 79)) 3,
      sop nb 17 (.assign (.tmp 80)) 3,
      sop nb 18 (.assign (.tmp 81)) 3]) (
    .ops [sop nb 82 (.move (.tmp 11)) 26,
      sop nb 83 (.move (.tmp 17)) 3,
      sop nb 84 (.buildSlice 26 1 #[(0, (.tmp 83))]) 26,
      sop nb 85 (.call { callee := .builtin .append, args := #[(.tmp 82), (.tmp 84)], argTypes := #[26, 26] }) 26,
      sop nb 86 (.move (.tmp 12)) 26,
      sop nb 87 (.move (.tmp 16)) 3,
      sop nb 88 (.buildSlice 26 1 #[(0, (.tmp 87))]) 26,
      sop nb 89 (.call { callee := .builtin .append, args := #[(.tmp 86), (.tmp 88)], argTypes := #[26, 26] }) 26,
      sop nb 90 (.move (.tmp 13)) 3,
      sop nb 91 (.move (.tmp 18)) 3,
      sop nb 92 (.binOp .add 3 (.tmp 90) (.tmp 91) 3) 3,
      sop nb 11 (.assign (.tmp 85)) 26,
      sop nb 12 (.assign (.tmp 89)) 26,
      sop nb 13 (.assign (.tmp 92)) 3]))) (
   .ops [sop nb 63 (.move (.tmp 14)) 3,
     sop nb 64 (.binOp .add 3 (.tmp 63) (.const (.int .i64 1)) 3) 3,
     sop nb 14 (.assign (.tmp 64)) 3])))))) (
 .seq (
 .ops [sop nb 94 (.load 24 (.tmp 7)) 24,
 sop nb 95 (.call { callee := .value (.func 46), args := #[(.tmp 94)], argTypes := #[24] }) 24,
 sop nb 96 (.move (.tmp 8)) 25,
 sop nb 97 (.call { callee := .value (.func 51), args := #[(.tmp 96)], argTypes := #[25] }) 25,
 sop nb 98 (.move (.tmp 11)) 26,
 sop nb 99 (.call { callee := .value (.func 17), args := #[(.tmp 98)], argTypes := #[26] }) 26,
 sop nb 100 (.move (.tmp 13)) 3,
 sop nb 101 (.call { callee := .value (.func 18), args := #[(.tmp 95), (.tmp 97), (.tmp 99), (.tmp 100)], argTypes := #[24, 25, 26, 3] }) 35,
 sop nb 93 (.move (.tmp 101)) 35,
 sop nb 102 (.extract (.tmp 93) 0) 26,
 sop nb 103 (.extract (.tmp 93) 1) 34,
 sop nb 19 (.assign (.tmp 102)) 26,
 sop nb 20 (.assign (.tmp 103)) 34]) (
 .seq (
 .ops [sop nb 105 (.load 24 (.tmp 7)) 24,
 sop nb 106 (.call { callee := .value (.func 46), args := #[(.tmp 105)], argTypes := #[24] }) 24,
 sop nb 107 (.move (.tmp 8)) 25,
 sop nb 108 (.call { callee := .value (.func 51), args := #[(.tmp 107)], argTypes := #[25] }) 25,
 sop nb 109 (.move (.tmp 11)) 26,
 sop nb 110 (.call { callee := .value (.func 17), args := #[(.tmp 109)], argTypes := #[26] }) 26,
 sop nb 111 (.move (.tmp 13)) 3,
 sop nb 112 (.call { callee := .value (.func 19), args := #[(.tmp 106), (.tmp 108), (.tmp 110), (.tmp 111)], argTypes := #[24, 25, 26, 3] }) 37,
 sop nb 104 (.move (.tmp 112)) 37,
 sop nb 113 (.extract (.tmp 104) 0) 3,
 sop nb 114 (.extract (.tmp 104) 1) 3,
 sop nb 115 (.extract (.tmp 104) 2) 34,
 sop nb 21 (.assign (.tmp 113)) 3,
 sop nb 22 (.assign (.tmp 114)) 3,
 sop nb 23 (.assign (.tmp 115)) 34]) (
 .seq (
 .seq (
 .ops [sop nb 116 (.move (.tmp 20)) 34,
 sop nb 117 (.binOp .neq 34 (.tmp 116) (.const (.int .i64 0)) 34) 4,
 sop nb 118 (.move (.tmp 117)) 4,
   ⟨some 119, (.move (.tmp 19)), 26, some (118, false), some (nb + 119)⟩,
   ⟨some 120, (.move (.tmp 10)), 3, some (118, false), some (nb + 120)⟩,
   ⟨some 121, (.call { callee := .value (.func 49), args := #[(.tmp 119), (.tmp 120)], argTypes := #[26, 3] }), 4, some (118, false), some (nb + 121)⟩,
   ⟨some 122, (.unOp .not 4 (.tmp 121)), 4, some (118, false), some (nb + 122)⟩,
 sop nb 123 (.pick (.tmp 118) (.const (.bool true)) (.tmp 122)) 4,
 sop nb 124 (.move (.tmp 123)) 4,
   ⟨some 125, (.move (.tmp 23)), 34, some (124, false), some (nb + 125)⟩,
   ⟨some 126, (.binOp .neq 34 (.tmp 125) (.const (.int .i64 0)) 34), 4, some (124, false), some (nb + 126)⟩,
   ⟨some 127, (.move (.tmp 126)), 4, some (124, false), some (nb + 127)⟩,
   ⟨some 128, (.move (.tmp 23)), 34, some (127, true), some (nb + 128)⟩,
   ⟨some 129, (.binOp .neq 34 (.tmp 128) (.const (.int .i64 6)) 34), 4, some (127, true), some (nb + 129)⟩,
   ⟨some 130, (.move (.tmp 129)), 4, some (127, true), some (nb + 130)⟩,
   ⟨some 131, (.move (.tmp 21)), 3, some (130, false), some (nb + 131)⟩,
   ⟨some 132, (.binOp .neq 3 (.tmp 131) (.const (.int .i64 0)) 3), 4, some (130, false), some (nb + 132)⟩,
   ⟨some 133, (.pick (.tmp 130) (.const (.bool true)) (.tmp 132)), 4, some (127, true), some (nb + 133)⟩,
   ⟨some 134, (.move (.tmp 133)), 4, some (127, true), some (nb + 134)⟩,
   ⟨some 135, (.move (.tmp 22)), 3, some (134, false), some (nb + 135)⟩,
   ⟨some 136, (.binOp .neq 3 (.tmp 135) (.const (.int .i64 0)) 3), 4, some (134, false), some (nb + 136)⟩,
   ⟨some 137, (.pick (.tmp 134) (.const (.bool true)) (.tmp 136)), 4, some (127, true), some (nb + 137)⟩,
   ⟨some 138, (.pick (.tmp 127) (.tmp 137) (.const (.bool false))), 4, some (124, false), some (nb + 138)⟩,
 sop nb 139 (.pick (.tmp 124) (.const (.bool true)) (.tmp 138)) 4,
 sop nb 140 (.move (.tmp 139)) 4,
   ⟨some 141, (.move (.tmp 23)), 34, some (140, false), some (nb + 141)⟩,
   ⟨some 142, (.binOp .eql 34 (.tmp 141) (.const (.int .i64 0)) 34), 4, some (140, false), some (nb + 142)⟩,
   ⟨some 143, (.move (.tmp 142)), 4, some (140, false), some (nb + 143)⟩,
   ⟨some 144, (.move (.tmp 21)), 3, some (143, true), some (nb + 144)⟩,
   ⟨some 145, (.binOp .lss 3 (.tmp 144) (.const (.int .i64 0)) 3), 4, some (143, true), some (nb + 145)⟩,
   ⟨some 146, (.move (.tmp 145)), 4, some (143, true), some (nb + 146)⟩,
   ⟨some 147, (.move (.tmp 21)), 3, some (146, false), some (nb + 147)⟩,
   ⟨some 148, (.binOp .gtr 3 (.tmp 147) (.const (.int .i64 2)) 3), 4, some (146, false), some (nb + 148)⟩,
   ⟨some 149, (.pick (.tmp 146) (.const (.bool true)) (.tmp 148)), 4, some (143, true), some (nb + 149)⟩,
   ⟨some 150, (.move (.tmp 149)), 4, some (143, true), some (nb + 150)⟩,
   ⟨some 151, (.move (.tmp 22)), 3, some (150, false), some (nb + 151)⟩,
   ⟨some 152, (.binOp .lss 3 (.tmp 151) (.const (.int .i64 1)) 3), 4, some (150, false), some (nb + 152)⟩,
   ⟨some 153, (.pick (.tmp 150) (.const (.bool true)) (.tmp 152)), 4, some (143, true), some (nb + 153)⟩,
   ⟨some 154, (.move (.tmp 153)), 4, some (143, true), some (nb + 154)⟩,
   ⟨some 155, (.move (.tmp 22)), 3, some (154, false), some (nb + 155)⟩,
   ⟨some 156, (.move (.tmp 19)), 26, some (154, false), some (nb + 156)⟩,
   ⟨some 157, (.call { callee := .builtin .len, args := #[(.tmp 156)], argTypes := #[26] }), 3, some (154, false), some (nb + 157)⟩,
   ⟨some 158, (.binOp .geq 3 (.tmp 155) (.tmp 157) 3), 4, some (154, false), some (nb + 158)⟩,
   ⟨some 159, (.pick (.tmp 154) (.const (.bool true)) (.tmp 158)), 4, some (143, true), some (nb + 159)⟩,
   ⟨some 160, (.pick (.tmp 143) (.tmp 159) (.const (.bool false))), 4, some (140, false), some (nb + 160)⟩,
 sop nb 161 (.pick (.tmp 140) (.const (.bool true)) (.tmp 160)) 4]) (
 .cond (.tmp 161) (
  .seq (
  .ops [sop nb 6 (.assign (.const (.bool false))) 4]) (
  .ret)) (
  .skip))) (
 .seq (
 .seq (
 .ops [sop nb 24 (.assign (.const (.int .i64 0))) 3]) (
 .block 4 (
  .loop (
   .seq (
   .seq (
   .ops [sop nb 162 (.move (.tmp 24)) 3,
     sop nb 163 (.move (.tmp 19)) 26,
     sop nb 164 (.call { callee := .builtin .len, args := #[(.tmp 163)], argTypes := #[26] }) 3,
     sop nb 165 (.binOp .lss 3 (.tmp 162) (.tmp 164) 3) 4]) (
   .cond (.tmp 165) (
    .skip) (
    .exit 4))) (
   .seq (
   .block 5 (
    .seq (
    .ops [sop nb 168 (.move (.tmp 19)) 26,
      sop nb 169 (.move (.tmp 24)) 3,
      sop nb 170 (.indexAddr 26 (.tmp 168) (.tmp 169)) 0,
      sop nb 171 (.load 3 (.tmp 170)) 3,
      sop nb 172 (.binOp .lss 3 (.tmp 171) (.const (.int .i64 0)) 3) 4,
      sop nb 173 (.move (.tmp 172)) 4,
      ⟨some 174, (.move (.tmp 19)), 26, some (173, false), some (nb + 174)⟩,
      ⟨some 175, (.move (.tmp 24)), 3, some (173, false), some (nb + 175)⟩,
      ⟨some 176, (.indexAddr 26 (.tmp 174) (.tmp 175)), 0, some (173, false), some (nb + 176)⟩,
      ⟨some 177, (.load 3 (.tmp 176)), 3, some (173, false), some (nb + 177)⟩,
      ⟨some 178, (.binOp .gtr 3 (.tmp 177) (.const (.int .i64 4)) 3), 4, some (173, false), some (nb + 178)⟩,
      sop nb 179 (.pick (.tmp 173) (.const (.bool true)) (.tmp 178)) 4,
      sop nb 180 (.move (.tmp 179)) 4,
      ⟨some 181, (.move (.tmp 24)), 3, some (180, false), some (nb + 181)⟩,
      ⟨some 182, (.binOp .gtr 3 (.tmp 181) (.const (.int .i64 0)) 3), 4, some (180, false), some (nb + 182)⟩,
      ⟨some 183, (.move (.tmp 182)), 4, some (180, false), some (nb + 183)⟩,
      ⟨some 184, (.move (.tmp 19)), 26, some (183, true), some (nb + 184)⟩,
      ⟨some 185, (.move (.tmp 24)), 3, some (183, true), some (nb + 185)⟩,
      ⟨some 186, (.indexAddr 26 (.tmp 184) (.tmp 185)), 0, some (183, true), some (nb + 186)⟩,
      ⟨some 187, (.load 3 (.tmp 186)), 3, some (183, true), some (nb + 187)⟩,
      ⟨some 188, (.move (.tmp 19)), 26, some (183, true), some (nb + 188)⟩,
      ⟨some 189, (.move (.tmp 24)), 3, some (183, true), some (nb + 189)⟩,
      ⟨some 190, (.binOp .sub 3 (.tmp 189) (.const (.int .i64 1)) 3), 3, some (183, true), some (nb + 190)⟩,
      ⟨some 191, (.indexAddr 26 (.tmp 188) (.tmp 190)), 0, some (183, true), some (nb + 191)⟩,
      ⟨some 192, (.load 3 (.tmp 191)), 3, some (183, true), some (nb + 192)⟩,
      ⟨some 193, (.binOp .leq 3 (.tmp 187) (.tmp 192) 3), 4, some (183, true), some (nb + 193)⟩,
      ⟨some 194, (.pick (.tmp 183) (.tmp 193) (.const (.bool false))), 4, some (180, false), some (nb + 194)⟩,
      sop nb 195 (.pick (.tmp 180) (.const (.bool true)) (.tmp 194)) 4]) (
    .cond (.tmp 195) (
     .seq (
     .ops [sop nb 6 (.assign (.const (.bool false))) 4]) (
     .ret)) (
     .skip)))) (
   .ops [sop nb 166 (.move (.tmp 24)) 3,
     sop nb 167 (.binOp .add 3 (.tmp 166) (.const (.int .i64 1)) 3) 3,
     sop nb 24 (.assign (.tmp 167)) 3])))))) (
 .seq (
 .seq (
 .ops [sop nb 25 (.assign (.const (.int .i64 0))) 3]) (
 .block 6 (
  .loop (
   .seq (
   .seq (
   .ops [sop nb 196 (.move (.tmp 25)) 3,
     sop nb 197 (.binOp .lss 3 (.tmp 196) (.const (.int .i64 3)) 3) 4]) (
   .cond (.tmp 197) (
    .skip) (
    .exit 6))) (
   .seq (
   .block 7 (
    .seq (
    .ops [sop nb 26 (.assign (.const (.int .i64 0))) 3]) (
    .seq (
    .seq (
    .ops [sop nb 27 (.assign (.const (.int .i64 0))) 3]) (
    .block 8 (
     .loop (
      .seq (
      .seq (
      .ops [sop nb 200 (.move (.tmp 27)) 3,
        sop nb 201 (.fieldAddr 24 (.tmp 7) 0) 0,
        sop nb 202 (.load 3 (.tmp 201)) 3,
        sop nb 203 (.binOp .lss 3 (.tmp 200) (.tmp 202) 3) 4]) (
      .cond (.tmp 203) (
       .skip) (
       .exit 8))) (
      .seq (
      .block 9 (
       .seq (
       .ops [sop nb 28 (.assign (.const (.int .i64 0))) 3]) (
       .seq (
       .seq (
       .ops [sop nb 29 (.assign (.const (.int .i64 0))) 3]) (
       .block 10 (
        .loop (
         .seq (
         .seq (
         .ops [sop nb 206 (.move (.tmp 29)) 3,
           sop nb 207 (.move (.tmp 19)) 26,
           sop nb 208 (.call { callee := .builtin .len, args := #[(.tmp 207)], argTypes := #[26] }) 3,
           sop nb 209 (.binOp .lss 3 (.tmp 206) (.tmp 208) 3) 4]) (
         .cond (.tmp 209) (
          .skip) (
          .exit 10))) (
         .seq (
         .block 11 (
          .seq (
          .ops [sop nb 212 (.load 24 (.tmp 7)) 24,
            sop nb 213 (.move (.tmp 8)) 25,
            sop nb 214 (.move (.tmp 19)) 26,
            sop nb 215 (.move (.tmp 29)) 3,
            sop nb 216 (.indexAddr 26 (.tmp 214) (.tmp 215)) 0,
            sop nb 217 (.load 3 (.tmp 216)) 3,
            sop nb 218 (.indexAddr 25 (.tmp 213) (.tmp 217)) 0,
            sop nb 219 (.load 26 (.tmp 218)) 26,
            sop nb 220 (.move (.tmp 11)) 26,
            sop nb 221 (.move (.tmp 13)) 3,
            sop nb 222 (.move (.tmp 25)) 3,
            sop nb 223 (.move (.tmp 27)) 3,
            sop nb 224 (.call { callee := .value (.func 52), args := #[(.tmp 212), (.tmp 219), (.tmp 220), (.tmp 221), (.tmp 222), (.tmp 223)], argTypes := #[24, 26, 26, 3, 3, 3] }) 4]) (
          .cond (.tmp 224) (
           .ops [sop nb 225 (.move (.tmp 28)) 3,
             sop nb 226 (.binOp .add 3 (.tmp 225) (.const (.int .i64 1)) 3) 3,
             sop nb 28 (.assign (.tmp 226)) 3]) (
           .skip)))) (
         .ops [sop nb 210 (.move (.tmp 29)) 3,
           sop nb 211 (.binOp .add 3 (.tmp 210) (.const (.int .i64 1)) 3) 3,
           sop nb 29 (.assign (.tmp 211)) 3])))))) (
       .ops [sop nb 227 (.move (.tmp 26)) 3,
         sop nb 228 (.move (.tmp 28)) 3,
         sop nb 229 (.call { callee := .builtin .max, args := #[(.tmp 227), (.tmp 228)], argTypes := #[3, 3] }) 3,
         sop nb 26 (.assign (.tmp 229)) 3])))) (
      .ops [sop nb 204 (.move (.tmp 27)) 3,
        sop nb 205 (.binOp .add 3 (.tmp 204) (.const (.int .i64 1)) 3) 3,
        sop nb 27 (.assign (.tmp 205)) 3])))))) (
    .seq (
    .ops [sop nb 230 (.load 24 (.tmp 7)) 24,
      sop nb 231 (.move (.tmp 8)) 25,
      sop nb 232 (.move (.tmp 10)) 3,
      sop nb 233 (.indexAddr 25 (.tmp 231) (.tmp 232)) 0,
      sop nb 234 (.load 26 (.tmp 233)) 26,
      sop nb 235 (.move (.tmp 11)) 26,
      sop nb 236 (.move (.tmp 13)) 3,
      sop nb 237 (.move (.tmp 25)) 3,
      sop nb 238 (.move (.tmp 12)) 26,
      sop nb 239 (.move (.tmp 25)) 3,
      sop nb 240 (.indexAddr 26 (.tmp 238) (.tmp 239)) 0,
      sop nb 241 (.load 3 (.tmp 240)) 3,
      sop nb 242 (.call { callee := .value (.func 52), args := #[(.tmp 230), (.tmp 234), (.tmp 235), (.tmp 236), (.tmp 237), (.tmp 241)], argTypes := #[24, 26, 26, 3, 3, 3] }) 4,
      sop nb 243 (.unOp .not 4 (.tmp 242)) 4,
      sop nb 244 (.move (.tmp 243)) 4,
      ⟨some 245, (.move (.tmp 23)), 34, some (244, false), some (nb + 245)⟩,
      ⟨some 246, (.binOp .neq 34 (.tmp 245) (.const (.int .i64 0)) 34), 4, some (244, false), some (nb + 246)⟩,
      ⟨some 247, (.move (.tmp 246)), 4, some (244, false), some (nb + 247)⟩,
      ⟨some 248, (.move (.tmp 26)), 3, some (247, true), some (nb + 248)⟩,
      ⟨some 249, (.move (.tmp 19)), 26, some (247, true), some (nb + 249)⟩,
      ⟨some 250, (.call { callee := .builtin .len, args := #[(.tmp 249)], argTypes := #[26] }), 3, some (247, true), some (nb + 250)⟩,
      ⟨some 251, (.binOp .lss 3 (.tmp 248) (.tmp 250) 3), 4, some (247, true), some (nb + 251)⟩,
      ⟨some 252, (.pick (.tmp 247) (.tmp 251) (.const (.bool false))), 4, some (244, false), some (nb + 252)⟩,
      sop nb 253 (.pick (.tmp 244) (.const (.bool true)) (.tmp 252)) 4,
      sop nb 254 (.move (.tmp 253)) 4,
      ⟨some 255, (.move (.tmp 23)), 34, some (254, false), some (nb + 255)⟩,
      ⟨some 256, (.binOp .eql 34 (.tmp 255) (.const (.int .i64 0)) 34), 4, some (254, false), some (nb + 256)⟩,
      ⟨some 257, (.move (.tmp 256)), 4, some (254, false), some (nb + 257)⟩,
      ⟨some 258, (.move (.tmp 25)), 3, some (257, true), some (nb + 258)⟩,
      ⟨some 259, (.move (.tmp 21)), 3, some (257, true), some (nb + 259)⟩,
      ⟨some 260, (.binOp .eql 3 (.tmp 258) (.tmp 259) 3), 4, some (257, true), some (nb + 260)⟩,
      ⟨some 261, (.move (.tmp 260)), 4, some (257, true), some (nb + 261)⟩,
      ⟨some 262, (.move (.tmp 26)), 3, some (261, true), some (nb + 262)⟩,
      ⟨some 263, (.move (.tmp 22)), 3, some (261, true), some (nb + 263)⟩,
      ⟨some 264, (.binOp .neq 3 (.tmp 262) (.tmp 263) 3), 4, some (261, true), some (nb + 264)⟩,
      ⟨some 265, (.pick (.tmp 261) (.tmp 264) (.const (.bool false))), 4, some (257, true), some (nb + 265)⟩,
      ⟨some 266, (.move (.tmp 265)), 4, some (257, true), some (nb + 266)⟩,
      ⟨some 267, (.move (.tmp 26)), 3, some (266, false), some (nb + 267)⟩,
      ⟨some 268, (.move (.tmp 22)), 3, some (266, false), some (nb + 268)⟩,
      ⟨some 269, (.binOp .lss 3 (.tmp 267) (.tmp 268) 3), 4, some (266, false), some (nb + 269)⟩,
      ⟨some 270, (.pick (.tmp 266) (.const (.bool true)) (.tmp 269)), 4, some (257, true), some (nb + 270)⟩,
      ⟨some 271, (.move (.tmp 270)), 4, some (257, true), some (nb + 271)⟩,
      ⟨some 272, (.move (.tmp 25)), 3, some (271, false), some (nb + 272)⟩,
      ⟨some 273, (.move (.tmp 21)), 3, some (271, false), some (nb + 273)⟩,
      ⟨some 274, (.binOp .lss 3 (.tmp 272) (.tmp 273) 3), 4, some (271, false), some (nb + 274)⟩,
      ⟨some 275, (.move (.tmp 274)), 4, some (271, false), some (nb + 275)⟩,
      ⟨some 276, (.move (.tmp 26)), 3, some (275, true), some (nb + 276)⟩,
      ⟨some 277, (.move (.tmp 22)), 3, some (275, true), some (nb + 277)⟩,
      ⟨some 278, (.binOp .eql 3 (.tmp 276) (.tmp 277) 3), 4, some (275, true), some (nb + 278)⟩,
      ⟨some 279, (.pick (.tmp 275) (.tmp 278) (.const (.bool false))), 4, some (271, false), some (nb + 279)⟩,
      ⟨some 280, (.pick (.tmp 271) (.const (.bool true)) (.tmp 279)), 4, some (257, true), some (nb + 280)⟩,
      ⟨some 281, (.pick (.tmp 257) (.tmp 280) (.const (.bool false))), 4, some (254, false), some (nb + 281)⟩,
      sop nb 282 (.pick (.tmp 254) (.const (.bool true)) (.tmp 281)) 4]) (
    .cond (.tmp 282) (
     .seq (
     .ops [sop nb 6 (.assign (.const (.bool false))) 4]) (
     .ret)) (
     .skip)))))) (
   .ops [sop nb 198 (.move (.tmp 25)) 3,
     sop nb 199 (.binOp .add 3 (.tmp 198) (.const (.int .i64 1)) 3) 3,
     sop nb 25 (.assign (.tmp 199)) 3])))))) (
 .seq (
 .ops [sop nb 283 (.call { callee := .value (.func 14), args := #[], argTypes := #[] }) 4,
 sop nb 6 (.assign (.tmp 283)) 4]) (
 .ret)))))))))))
@[go_sem] theorem rs8 : Go.Proofs.Try.f8.results.toList = [.tmp 6] := by kernel_rfl
theorem en8 : Enters Q 8 := enters_of Go.Proofs.Try.func8 rfl (by kernel_rfl)
theorem k8 (nb : Nat) : sk nb Go.Proofs.Try.f8.ntmps (Go.Proofs.Try.f8.body.getD .skip) = some (c8 nb) := by kernel_rfl
end S07

