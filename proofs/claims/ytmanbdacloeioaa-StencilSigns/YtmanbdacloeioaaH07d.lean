/- A part of the proof: H07d. -/
import Derived.Test.YtmanbdacloeioaaP07c
import Derived.Test.YtmanbdacloeioaaP07a
set_option linter.unusedVariables false
set_option linter.unusedSimpArgs false
set_option maxRecDepth 20000
namespace S07
open Go Abs
theorem and_three (a : Int) : binV .and (.int .i64 a) (.int .i64 3) = some (.int .i64 (a % 4)) := by
  have h1 : (BitVec.ofInt 64 a &&& BitVec.ofInt 64 3).toNat = (a % 4).toNat := by
    rw [BitVec.toNat_and, BitVec.toNat_ofInt, BitVec.toNat_ofInt]
    have : ((3 : Int) % ((2 ^ 64 : Nat) : Int)).toNat = 2 ^ 2 - 1 := by decide
    rw [this, Nat.and_two_pow_sub_one_eq_mod]
    have h2 : 0 ≤ a % ((2 ^ 64 : Nat) : Int) := Int.emod_nonneg _ (by decide)
    have h3 : a % ((2 ^ 64 : Nat) : Int) % 4 = a % 4 := Int.emod_emod_of_dvd a (by decide)
    omega
  show (if IntKind.i64 = IntKind.i64 then some (Value.int .i64 (IntKind.i64.wrap ((BitVec.ofInt 64 a &&& BitVec.ofInt 64 3).toNat : Nat))) else none) = _
  rw [if_pos rfl, h1, wr _ (by omega) (by omega)]
  congr 2
  omega
theorem t77 {st : FV} {N : Int} {hs al : FV} {H A : List (Int × Int)} (v : SetV st N hs al H A) (lA : A.length ≤ 1000000) (x : Int) :
    Fn Q 77 [.fo st, .fo (.int x)] (.one (.fx (.list false (ints (aliF A x))))) := by
  obtain ⟨rfl, hH, hA, _, _⟩ := v
  have o1 := ls_one hH
  have o2 := ls_one hA
  refine fn_intro Go.Proofs.Try.func77 rfl (by kernel_rfl) mix (k77 0) (Nat.le_of_ble_eq_true (by kernel_rfl)) ?_
  refine Abs.walk ?_
  unfold c77 sop
  simp -implicitDefEqProofs only [go_sem, simprocAttr, o1, o2]
  refine lpL (β := List Int) 9 [5, 6, 7] 9 [7, 8] A (by omega) (fun r k acc => aliF A x = acc ++ aliF r x ∧ acc.length ≤ k) (fun k acc ρ h => ρ 6 = .fv (.int k) ∧ ρ 5 = .gl 8 (h.gen 8) ∧ h.obj 8 = some (.list 3 1 false false (ints acc))) [] ⟨rfl, by simp⟩ (by simp -implicitDefEqProofs only [go_sem, simprocAttr, ints]) ?_ ?_
  · rintro acc ρ h ⟨e, _⟩ ⟨r6, r5, o8⟩
    simp only [aliF, List.append_nil] at e
    simp -implicitDefEqProofs only [go_sem, simprocAttr, r6, r5, lenV_ls hA, List.length_map]
    exact ret_fx (fun _ => true) (by simp -implicitDefEqProofs only [go_sem, simprocAttr, o8, e])
  · rintro p ys k acc ρ h hx hk hm hk' hw ⟨e, la⟩ ⟨r6, r5, o8⟩
    by_cases e1 : x = p.1
    · have b1 : (x == p.1) = true := by simpa using e1
      simp -implicitDefEqProofs only [go_sem, simprocAttr, r6, r5, lenV_ls hA, List.length_map, hk', index_map hA idx_22 hx rfl, pF, b1]
      refine app_gl (by simp -implicitDefEqProofs only [go_sem, simprocAttr, o8]; rfl) idx_26 (by simp -implicitDefEqProofs only [go_sem, simprocAttr]; rfl) (by simp [FV.cells]) (by simp -implicitDefEqProofs only [go_sem, simprocAttr]) (by simp [byt_3, ints]; omega) (by simp [maxLen, ints]; omega) (by simp) ?_
      simp -implicitDefEqProofs only [go_sem, simprocAttr, r6, hw]
      refine nxtL (acc ++ [p.2]) ⟨by rw [e]; simp [aliF, e1], by simp; omega⟩ ?_
      simp -implicitDefEqProofs only [go_sem, simprocAttr, ints, List.map_append]
    · have b1 : (x == p.1) = false := by simpa using e1
      by_cases e2 : x = p.2
      · have b2 : (x == p.2) = true := by simpa using e2
        have e3 : ¬ p.2 = p.1 := e2 ▸ e1
        simp -implicitDefEqProofs only [go_sem, simprocAttr, r6, r5, lenV_ls hA, List.length_map, hk', index_map hA idx_22 hx rfl, pF, b1, b2]
        refine app_gl (by simp -implicitDefEqProofs only [go_sem, simprocAttr, o8]; rfl) idx_26 (by simp -implicitDefEqProofs only [go_sem, simprocAttr]; rfl) (by simp [FV.cells]) (by simp -implicitDefEqProofs only [go_sem, simprocAttr]) (by simp [byt_3, ints]; omega) (by simp [maxLen, ints]; omega) (by simp) ?_
        simp -implicitDefEqProofs only [go_sem, simprocAttr, r6, hw]
        refine nxtL (acc ++ [p.1]) ⟨by rw [e]; simp [aliF, e2, e3], by simp; omega⟩ ?_
        simp -implicitDefEqProofs only [go_sem, simprocAttr, ints, List.map_append]
      · have b2 : (x == p.2) = false := by simpa using e2
        simp -implicitDefEqProofs only [go_sem, simprocAttr, r6, r5, lenV_ls hA, List.length_map, hk', index_map hA idx_22 hx rfl, pF, b1, b2]
        simp -implicitDefEqProofs only [go_sem, simprocAttr, r6, r5, hw]
        refine nxtL acc ⟨by rw [e]; simp [aliF, e1, e2], by omega⟩ ?_
        simp -implicitDefEqProofs only [go_sem, simprocAttr, o8, r5]
theorem t44 {st : FV} {N : Int} {hs al : FV} {H A : List (Int × Int)} (v : SetV st N hs al H A) (lA : A.length ≤ 1000000) (l : Int) {b : Int} (b0 : 0 ≤ b) (b1 : b < 256) :
    Fn Q 44 [.fo st, .fo (.int l), .fo (u8 b)] (.tup [.fx (.int (layP H A l b).1), .fx (.int (layP H A l b).2.1), .fx (.int (layP H A l b).2.2.1), .fx (.int (layP H A l b).2.2.2)]) := by
  have c77 := t77 v lA l
  have c50 := fun x => t50 v x
  obtain ⟨rfl, hH, hA, _, _⟩ := v
  have o1 := ls_one hH
  have o2 := ls_one hA
  have hal := aliF_len A l
  unfold layP
  dsimp only
  generalize aliF A l = L at *
  have wb : IntKind.i64.wrap b = b := wr _ (by omega) (by omega)
  have m4 : b.tmod 4 = b % 4 := Int.tmod_eq_emod_of_nonneg b0
  have m2 : b.tmod 2 = b % 2 := Int.tmod_eq_emod_of_nonneg b0
  have d4 : b.tdiv 4 = b / 4 := Int.tdiv_eq_ediv_of_nonneg b0
  have n4 : (0 : Int) ≤ b / 4 ∧ b / 4 < 64 := by omega
  have w4 : IntKind.i64.wrap (b / 4) = b / 4 := wr _ (by omega) (by omega)
  by_cases hb : 2 ≤ b % 4 ∧ 0 < L.length
  · have tk : (decide (2 ≤ b % 4) && decide (0 < L.length)) = true := by simp [hb.1, hb.2]
    have q1 : (0 : Int) < (L.length : Nat) := by omega
    have L0 : ¬ (((L.length : Nat) : Int) = 0) := by omega
    have m0 := Int.emod_nonneg (b / 4) L0
    have m1 := Int.emod_lt_of_pos (b / 4) q1
    have mt : (b / 4).tmod (L.length : Nat) = b / 4 % (L.length : Nat) := Int.tmod_eq_emod_of_nonneg n4.1
    have wm : IntKind.i64.wrap (b / 4 % (L.length : Nat)) = b / 4 % (L.length : Nat) := wr _ (by omega) (by omega)
    have gi : (ints L)[(b / 4 % (L.length : Nat)).toNat]? = some (.int (L.getD (b / 4 % (L.length : Nat)).toNat 0)) := by
      simp [ints, List.getD_eq_getElem?_getD, List.getElem?_eq_getElem (show (b / 4 % (L.length : Nat)).toNat < L.length by omega)]
    rw [tk]
    simp only [if_true]
    generalize L.getD (b / 4 % (L.length : Nat)).toNat 0 = o at *
    have c50o := c50 o
    by_cases hb2 : b % 2 = 1
    · have e2 : (b % 2 == 1) = true := by simpa using hb2
      rw [if_pos hb2]
      refine fn_intro Go.Proofs.Try.func44 rfl (by kernel_rfl) mix (k44 0) (Nat.le_of_ble_eq_true (by kernel_rfl)) ?_
      refine Abs.walk ?_
      unfold c44 sop
      simp -implicitDefEqProofs only [go_sem, simprocAttr, o1, o2, u8]
      refine call1 [] false (c77) ?_
      simp -implicitDefEqProofs only [go_sem, simprocAttr, ints_len, m4, hb.1, q1]
      refine W_opsD _ _ _ (Vs []) ?_ ?_
      · decide
      simp -implicitDefEqProofs only [go_sem, simprocAttr, ints_len, L0, wb, d4, w4, mt, wm, m0, m1, gi, m2, e2]
      refine call1 [] false (c50o) ?_
      simp -implicitDefEqProofs only [go_sem, simprocAttr]
      exact ret_tup (fun _ => true) (by simp -implicitDefEqProofs only [go_sem, simprocAttr]) (by simp [ownNames])
    · have e2 : (b % 2 == 1) = false := by simpa using hb2
      rw [if_neg hb2]
      refine fn_intro Go.Proofs.Try.func44 rfl (by kernel_rfl) mix (k44 0) (Nat.le_of_ble_eq_true (by kernel_rfl)) ?_
      refine Abs.walk ?_
      unfold c44 sop
      simp -implicitDefEqProofs only [go_sem, simprocAttr, o1, o2, u8]
      refine call1 [] false (c77) ?_
      simp -implicitDefEqProofs only [go_sem, simprocAttr, ints_len, m4, hb.1, q1]
      refine W_opsD _ _ _ (Vs []) ?_ ?_
      · decide
      simp -implicitDefEqProofs only [go_sem, simprocAttr, ints_len, L0, wb, d4, w4, mt, wm, m0, m1, gi, m2, e2]
      exact ret_tup (fun _ => true) (by simp -implicitDefEqProofs only [go_sem, simprocAttr]) (by simp [ownNames])
  · have tk : (decide (2 ≤ b % 4) && decide (0 < L.length)) = false := by
      rw [Bool.and_eq_false_iff]
      by_cases h1 : 2 ≤ b % 4
      · right
        have : ¬ 0 < L.length := fun h => hb ⟨h1, h⟩
        simpa using this
      · left; simpa using h1
    rw [tk]
    simp only [Bool.false_eq_true, if_false]
    have q1 : ¬ (2 ≤ b % 4) ∨ (2 ≤ b % 4 ∧ ¬ ((0 : Int) < (L.length : Nat))) := by
      by_cases h1 : 2 ≤ b % 4
      · exact .inr ⟨h1, fun h => hb ⟨h1, by omega⟩⟩
      · exact .inl h1
    have c50l := c50 l
    rcases q1 with q1 | ⟨q1, q3⟩ <;> by_cases hb2 : b % 2 = 1
    · have e2 : (b % 2 == 1) = true := by simpa using hb2
      rw [if_pos hb2]
      refine fn_intro Go.Proofs.Try.func44 rfl (by kernel_rfl) mix (k44 0) (Nat.le_of_ble_eq_true (by kernel_rfl)) ?_
      refine Abs.walk ?_
      unfold c44 sop
      simp -implicitDefEqProofs only [go_sem, simprocAttr, o1, o2, u8]
      refine call1 [] false (c77) ?_
      simp -implicitDefEqProofs only [go_sem, simprocAttr, ints_len, m4, q1, m2, e2]
      refine call1 [] false (c50l) ?_
      simp -implicitDefEqProofs only [go_sem, simprocAttr]
      exact ret_tup (fun _ => true) (by simp -implicitDefEqProofs only [go_sem, simprocAttr]) (by simp [ownNames])
    · have e2 : (b % 2 == 1) = false := by simpa using hb2
      rw [if_neg hb2]
      refine fn_intro Go.Proofs.Try.func44 rfl (by kernel_rfl) mix (k44 0) (Nat.le_of_ble_eq_true (by kernel_rfl)) ?_
      refine Abs.walk ?_
      unfold c44 sop
      simp -implicitDefEqProofs only [go_sem, simprocAttr, o1, o2, u8]
      refine call1 [] false (c77) ?_
      simp -implicitDefEqProofs only [go_sem, simprocAttr, ints_len, m4, q1, m2, e2]
      exact ret_tup (fun _ => true) (by simp -implicitDefEqProofs only [go_sem, simprocAttr]) (by simp [ownNames])
    · have e2 : (b % 2 == 1) = true := by simpa using hb2
      rw [if_pos hb2]
      refine fn_intro Go.Proofs.Try.func44 rfl (by kernel_rfl) mix (k44 0) (Nat.le_of_ble_eq_true (by kernel_rfl)) ?_
      refine Abs.walk ?_
      unfold c44 sop
      simp -implicitDefEqProofs only [go_sem, simprocAttr, o1, o2, u8]
      refine call1 [] false (c77) ?_
      simp -implicitDefEqProofs only [go_sem, simprocAttr, ints_len, m4, q1, q3, m2, e2]
      refine call1 [] false (c50l) ?_
      simp -implicitDefEqProofs only [go_sem, simprocAttr]
      exact ret_tup (fun _ => true) (by simp -implicitDefEqProofs only [go_sem, simprocAttr]) (by simp [ownNames])
    · have e2 : (b % 2 == 1) = false := by simpa using hb2
      rw [if_neg hb2]
      refine fn_intro Go.Proofs.Try.func44 rfl (by kernel_rfl) mix (k44 0) (Nat.le_of_ble_eq_true (by kernel_rfl)) ?_
      refine Abs.walk ?_
      unfold c44 sop
      simp -implicitDefEqProofs only [go_sem, simprocAttr, o1, o2, u8]
      refine call1 [] false (c77) ?_
      simp -implicitDefEqProofs only [go_sem, simprocAttr, ints_len, m4, q1, q3, m2, e2]
      exact ret_tup (fun _ => true) (by simp -implicitDefEqProofs only [go_sem, simprocAttr]) (by simp [ownNames])
end S07

