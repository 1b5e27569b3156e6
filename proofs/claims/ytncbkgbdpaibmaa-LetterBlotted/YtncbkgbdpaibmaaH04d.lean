/- A part of the proof: H04d, H04e. -/
import Derived.Test.YtncbkgbdpaibmaaH04c
set_option linter.unusedVariables false
set_option linter.unusedSimpArgs false
set_option maxRecDepth 20000
namespace S04
open Go Abs
theorem t24 {sa sb : FV} {a b : List Int} (h1 : lsOf sa = some (ints a)) (h2 : lsOf sb = some (ints b)) (l1 : a.length ≤ 1000000) (l2 : b.length ≤ 1000000) : Fn Q 24 [.fo sa, .fo sb] (.one (.fx (.bool (decide (a = b))))) := by
  by_cases hl : a.length = b.length
  · have hl' : (((a.length : Nat) : Int) != (b.length : Nat)) = false := by simp [hl]
    refine w24 ?_
    dsimp only [c24, sop, gop, nop, qmv, qsg, qex, qld, qcl, qln, qix, qbo, qt, qi]
    simp -implicitDefEqProofs only [go_sem, simprocAttr, lenV_ls h1, lenV_ls h2, ints_length, hl']
    refine lpH 11 [5] 11 [] (fun k : Nat => a.length - k) (fun k => k ≤ a.length ∧ a.take k = b.take k) (fun k ρ h => ρ 5 = .fv (.int (k : Nat))) 0 ⟨Nat.zero_le _, by simp⟩ ?_ ?_
    · simp -implicitDefEqProofs only [go_sem, simprocAttr]
    · rintro k ρ h' ⟨hk, et⟩ r5
      by_cases q1 : k < a.length
      · have q1' : (k : Int) < (a.length : Nat) := by omega
        have hw : IntKind.i64.wrap ((k : Int) + 1) = ((k + 1 : Nat) : Int) := wr _ (by omega) (by omega)
        obtain ⟨x, hx⟩ : ∃ x, a[k]? = some x := ⟨_, List.getElem?_eq_getElem q1⟩
        obtain ⟨y, hy⟩ : ∃ y, b[k]? = some y := ⟨_, List.getElem?_eq_getElem (show k < b.length by omega)⟩
        by_cases e : x = y
        · have e' : (x != y) = false := by simp [e]
          simp -implicitDefEqProofs only [go_sem, simprocAttr, r5, lenV_ls h1, ints_length, q1', index_map h1 idx_22 hx rfl, index_map h2 idx_22 hy rfl, e', hw]
          refine nxt (k + 1) (by omega) ⟨q1, by rw [List.take_add_one, List.take_add_one, et, hx, hy, e]⟩ ?_
          simp -implicitDefEqProofs only [go_sem, simprocAttr]
        · have e' : (x != y) = true := by simpa using e
          simp -implicitDefEqProofs only [go_sem, simprocAttr, r5, lenV_ls h1, ints_length, q1', index_map h1 idx_22 hx rfl, index_map h2 idx_22 hy rfl, e']
          refine ret_eq ?_
          have : a ≠ b := by rintro rfl; rw [hx] at hy; exact e (by simpa using hy)
          simp [this]
      · have q1' : ¬ (k : Int) < (a.length : Nat) := by omega
        simp -implicitDefEqProofs only [go_sem, simprocAttr, r5, lenV_ls h1, ints_length, q1']
        refine ret_eq ?_
        rw [List.take_of_length_le (by omega), List.take_of_length_le (by omega)] at et
        simp [et]
  · have hl' : (((a.length : Nat) : Int) != (b.length : Nat)) = true := by simp; omega
    refine w24 ?_
    dsimp only [c24, sop, gop, nop, qmv, qsg, qex, qld, qcl, qln, qix, qbo, qt, qi]
    simp -implicitDefEqProofs only [go_sem, simprocAttr, lenV_ls h1, lenV_ls h2, ints_length, hl']
    refine ret_eq ?_
    have : a ≠ b := fun e => hl (by rw [e])
    simp [this]
theorem lists_get {W : List (List Int)} {wl : List FV} (hw2 : wl.map FV.toL = W) (hw3 : ∀ x ∈ wl, ∃ l : List Int, lsOf x = some (ints l) ∧ l.length ≤ 9223372036854775807) {k : Nat} {x : FV} (hx : wl[k]? = some x) : ∃ l, lsOf x = some (ints l) ∧ W[k]? = some l ∧ x.cells = [x] := by
  obtain ⟨l, hl, _⟩ := hw3 x (List.mem_of_getElem? hx)
  refine ⟨l, hl, ?_, ls_cells hl⟩
  rw [← hw2, List.getElem?_map, hx, Option.map_some, toL_ls hl]
theorem t40 {sa sb : FV} {A B : List (List Int)} (h1 : Lists sa A) (h2 : Lists sb B) (l1 : A.length ≤ 1000000) (l2 : B.length ≤ 1000000) (lA : ∀ l ∈ A, l.length ≤ 1000000) (lB : ∀ l ∈ B, l.length ≤ 1000000) : Fn Q 40 [.fo sa, .fo sb] (.one (.fx (.bool (decide (A = B))))) := by
  obtain ⟨wa, a1, a2, a3⟩ := h1
  obtain ⟨wb, b1, b2, b3⟩ := h2
  have la : wa.length = A.length := by rw [← a2]; simp
  have lb : wb.length = B.length := by rw [← b2]; simp
  by_cases hl : A.length = B.length
  · have hl' : (((A.length : Nat) : Int) != (B.length : Nat)) = false := by simp [hl]
    refine w40 ?_
    dsimp only [c40, sop, gop, nop, qmv, qsg, qex, qld, qcl, qln, qix, qbo, qt, qi]
    simp -implicitDefEqProofs only [go_sem, simprocAttr, lenV_ls a1, lenV_ls b1, la, lb, hl']
    refine lpH 11 [5] 11 [] (fun k : Nat => A.length - k) (fun k => k ≤ A.length ∧ A.take k = B.take k) (fun k ρ h => ρ 5 = .fv (.int (k : Nat))) 0 ⟨Nat.zero_le _, by simp⟩ ?_ ?_
    · simp -implicitDefEqProofs only [go_sem, simprocAttr]
    · rintro k ρ h' ⟨hk, et⟩ r5
      by_cases q1 : k < A.length
      · have q1' : (k : Int) < (A.length : Nat) := by omega
        have hw : IntKind.i64.wrap ((k : Int) + 1) = ((k + 1 : Nat) : Int) := wr _ (by omega) (by omega)
        have ka : k < wa.length := by omega
        have kb : k < wb.length := by omega
        obtain ⟨x, hx⟩ : ∃ x, wa[k]? = some x := ⟨_, List.getElem?_eq_getElem ka⟩
        obtain ⟨y, hy⟩ : ∃ y, wb[k]? = some y := ⟨_, List.getElem?_eq_getElem kb⟩
        obtain ⟨a, ha1, ha2, ha3⟩ := lists_get a2 a3 hx
        obtain ⟨b, hb1, hb2, hb3⟩ := lists_get b2 b3 hy
        have c24 := t24 ha1 hb1 (lA a (List.mem_of_getElem? ha2)) (lB b (List.mem_of_getElem? hb2))
        by_cases e : a = b
        · simp -implicitDefEqProofs only [go_sem, simprocAttr, r5, lenV_ls a1, la, q1', index_ls a1 idx_56 hx (by rw [ha3]; rfl), ha3, index_ls b1 idx_56 hy (by rw [hb3]; rfl), hb3]
          refine call1 [] false (c24) ?_
          simp -implicitDefEqProofs only [go_sem, simprocAttr, eq_true e, decide_true, r5, hw]
          refine nxt (k + 1) (by omega) ⟨q1, by rw [List.take_add_one, List.take_add_one, et, ha2, hb2, e]⟩ ?_
          simp -implicitDefEqProofs only [go_sem, simprocAttr]
        · simp -implicitDefEqProofs only [go_sem, simprocAttr, r5, lenV_ls a1, la, q1', index_ls a1 idx_56 hx (by rw [ha3]; rfl), ha3, index_ls b1 idx_56 hy (by rw [hb3]; rfl), hb3]
          refine call1 [] false (c24) ?_
          simp -implicitDefEqProofs only [go_sem, simprocAttr, eq_false e, decide_false]
          refine ret_eq ?_
          have : A ≠ B := by rintro rfl; rw [ha2] at hb2; exact e (by simpa using hb2)
          simp [this]
      · have q1' : ¬ (k : Int) < (A.length : Nat) := by omega
        simp -implicitDefEqProofs only [go_sem, simprocAttr, r5, lenV_ls a1, la, q1']
        refine ret_eq ?_
        rw [List.take_of_length_le (by omega), List.take_of_length_le (by omega)] at et
        simp [et]
  · have hl' : (((A.length : Nat) : Int) != (B.length : Nat)) = true := by simp; omega
    refine w40 ?_
    dsimp only [c40, sop, gop, nop, qmv, qsg, qex, qld, qcl, qln, qix, qbo, qt, qi]
    simp -implicitDefEqProofs only [go_sem, simprocAttr, lenV_ls a1, lenV_ls b1, la, lb, hl']
    refine ret_eq ?_
    have : A ≠ B := fun e => hl (by rw [e])
    simp [this]
theorem t67 (a b : Int) : Fn Q 67 [.fo (.int a), .fo (.int b)] (.one (.fx (.agg [.int a, .int b]))) := by
  refine w67 ?_
  dsimp only [c67, sop, gop, nop, qmv, qsg, qex, qld, qcl, qln, qix, qbo, qt, qi]
  simp -implicitDefEqProofs only [go_sem, simprocAttr]
  exact ret_fx (fun _ => true) (by simp -implicitDefEqProofs only [go_sem, simprocAttr])
def cK : Cs := ⟨[10, 10, 3, 8], [(0, 1, 3), (1, 0, 3), (3, 1, 4)], 5, 2, 6⟩
def swK : FV := .list false (ints [10, 10, 3, 8])
def spK : FV := .list false (([(0, 1, 3), (1, 0, 3), (3, 1, 4)] : List (Int × Int × Int)).map tF)
theorem cK_v : CV cK swK spK := ⟨rfl, rfl, by decide, by decide⟩
theorem t68 : Fn Q 68 [] (.one (.fx (cK.fv swK spK))) := by
  refine w68 ?_
  dsimp only [c68, sop, gop, nop, qmv, qsg, qex, qld, qcl, qln, qix, qbo, qt, qi]
  simp -implicitDefEqProofs only [go_sem, simprocAttr]
  refine ret_fx (fun _ => true) ?_
  simp -implicitDefEqProofs only [go_sem, simprocAttr, swK, spK, cK, ints, tF]
end S04

namespace S04
open Go Abs
@[reducible] def wK : List Int := [0, 1, 2, 3]
@[reducible] def WK : List (List Int) := [[0, 1], [2, 3], [3, 2]]
@[reducible] def VK : List (List Int) := [[0, 1], [2, 3]]
theorem kn1 : errO cK [wK] = 0 := by kernel_rfl
theorem kn2 : cK.nd wK = 45 := by kernel_rfl
theorem kn3 : errL cK wK [2, 5, 6] = 0 := by kernel_rfl
theorem kn4 : cK.lk wK [2, 5, 6] = [5, 5, 6] := by kernel_rfl
theorem kn5 : errY cK wK 54 = 0 := by kernel_rfl
theorem kn6 : layW (cK.loo wK) cK.L (54 - cK.wd wK) 1 = some [2, 5, 6] := by kernel_rfl
theorem kn7 : layW (cK.loo wK) cK.L (54 - cK.wd wK) 0 = none := by kernel_rfl
theorem kn8 : errY cK wK 44 = 8 := by kernel_rfl
theorem kn9 : errF cK wK 36 = 0 := by kernel_rfl
theorem kn10 : cK.lf wK 36 = some [0] := by kernel_rfl
theorem kn11 : errP cK wK 2 60 = 0 := by kernel_rfl
theorem kn12 : cK.side wK 2 = 42 := by kernel_rfl
theorem kn13 : errB cK 50 WK = 0 := by kernel_rfl
theorem kn14 : (cK.brk 50 WK 2 0).foldl best2 none = some ([0, 1], 20) := by kernel_rfl
theorem kn15 : cK.brk 50 WK 1 0 = [] := by kernel_rfl
theorem kn16 : errZ cK VK [40, 25, 30, 50] = 0 := by kernel_rfl
theorem kn17 : pkV cK VK [40, 25, 30, 50] = .list false (ints [2, 1]) := by kernel_rfl
theorem kn18 : errX cK wK [2, 5, 9] 1 = 0 := by kernel_rfl
theorem kn19 : wgL (cK.wg wK [2, 5, 9] 1) = [2] := by kernel_rfl
theorem kn20 : errR cK [0, -1, 3] [2, 5] 40 45 = 0 := by kernel_rfl
theorem kn21 : rdV cK [0, -1, 3] [2, 5] 40 45 = .list false [.list false (ints [0, 1, 3])] := by kernel_rfl
theorem kn22 : sprF [5, 5, 6] = 1 := by kernel_rfl
theorem kn23 : min (30 : Int) (60 - 42) = 18 := by decide
theorem layK : LayIs cK wK 54 ([2, 5, 6], 1) := by
  rw [LayIs, if_neg (by decide)]
  refine ⟨kn6, by decide, by decide, fun k h0 h1 => ?_⟩
  obtain rfl : k = 0 := by simp only at h1; omega
  exact kn7
theorem linesK : LinesIs cK 50 WK ([0, 1], 20) := by
  refine ⟨2, by decide, by decide, kn14, fun k h0 h1 => ?_⟩
  obtain rfl : k = 1 := by omega
  exact kn15
theorem wKs : lsOf (.list false (ints wK)) = some (ints wK) := rfl
theorem lists_of {W : List (List Int)} (h : ∀ l ∈ W, l.length ≤ 9223372036854775807) : Lists (.list false (W.map fun l => .list false (ints l))) W := by
  refine ⟨_, rfl, ?_, ?_⟩
  · rw [List.map_map]
    conv => rhs; rw [← List.map_id W]
    exact List.map_congr_left fun l _ => toI_ints l
  · intro x hx
    obtain ⟨l, hl, rfl⟩ := List.mem_map.1 hx
    exact ⟨l, rfl, h l hl⟩
theorem t24s {sa sb : FV} {a : List Int} (h1 : lsOf sa = some (ints a)) (h2 : lsOf sb = some (ints a)) (l1 : a.length ≤ 1000000) : Fn Q 24 [.fo sa, .fo sb] (.one (.fx (.bool true))) := by simpa using t24 h1 h2 l1 l1
theorem t40s {sa sb : FV} {A : List (List Int)} (h1 : Lists sa A) (h2 : Lists sb A) (l1 : A.length ≤ 1000000) (lA : ∀ l ∈ A, l.length ≤ 1000000) : Fn Q 40 [.fo sa, .fo sb] (.one (.fx (.bool true))) := by simpa using t40 h1 h2 l1 l1 lA lA
theorem t17 : Fn Q 17 [] (.one (.fx (.bool true))) := by
  have v := cK_v
  have c20 := t20 v wKs (by decide)
  rw [kn1, if_pos rfl, kn2] at c20
  have c21 := t21 v wKs (by decide) (sg := .list false (ints [2, 5, 6])) (g := [2, 5, 6]) rfl (by decide)
  rw [kn3, if_pos rfl, if_pos rfl, kn4, kn22] at c21
  have c30 := t30 v wKs kn5 layK
  have c30e := t30e (n := 44) v wKs (by decide) (by rw [kn8]; decide)
  rw [kn8] at c30e
  have c33 := t33 (n := 36) v wKs (by decide)
  rw [kn9, if_pos rfl, kn10] at c33
  have c34 := t34 (at' := 2) (n := 60) v wKs (by decide)
  rw [kn11, if_pos rfl, kn12, kn23] at c34
  have c39 := t39 v (lists_of (W := WK) (by decide)) kn13 linesK
  have c43 := t43 v (lists_of (W := VK) (by decide)) (by decide) (spl := .list false (ints [40, 25, 30, 50])) (pl := [40, 25, 30, 50]) rfl (by decide)
  rw [kn16, kn17] at c43
  have c45 := t45 (most := 1) v wKs (by decide) (sg := .list false (ints [2, 5, 9])) (g := [2, 5, 9]) rfl (by decide)
  rw [kn18, if_pos rfl, kn19] at c45
  have c47 := t47 (lo := 40) (hi := 45) v (s := .list false (ints [0, -1, 3])) (w := [0, -1, 3]) rfl (by decide) (sg := .list false (ints [2, 5])) (g := [2, 5]) rfl (by decide)
  rw [kn20, kn21] at c47
  refine w17 ?_
  dsimp only [c17, sop, gop, nop, qmv, qsg, qex, qld, qcl, qln, qix, qbo, qt, qi]
  simp -implicitDefEqProofs only [go_sem, simprocAttr]
  refine call1 [] false (t68) ?_
  simp -implicitDefEqProofs only [go_sem, simprocAttr]
  refine call0 [26] false c20 (by simp -implicitDefEqProofs only [go_sem, simprocAttr, ints]) (.inl rfl) ?_
  simp -implicitDefEqProofs only [go_sem, simprocAttr]
  refine call1 [] false (t68) ?_
  simp -implicitDefEqProofs only [go_sem, simprocAttr]
  refine call0 [26, 36] false c21 (by simp -implicitDefEqProofs only [go_sem, simprocAttr, ints]) (.inl rfl) ?_
  simp -implicitDefEqProofs only [go_sem, simprocAttr]
  refine call1 [] false (t68) ?_
  simp -implicitDefEqProofs only [go_sem, simprocAttr]
  refine call0 [26] false c30 (by simp -implicitDefEqProofs only [go_sem, simprocAttr, ints]) (.inl rfl) ?_
  simp -implicitDefEqProofs only [go_sem, simprocAttr]
  refine call1 [] false (t68) ?_
  simp -implicitDefEqProofs only [go_sem, simprocAttr]
  refine call0 [26] false c30e (by simp -implicitDefEqProofs only [go_sem, simprocAttr, ints]) (.inl rfl) ?_
  simp -implicitDefEqProofs only [go_sem, simprocAttr]
  refine call1 [] false (t68) ?_
  simp -implicitDefEqProofs only [go_sem, simprocAttr]
  refine call0 [26] false c33 (by simp -implicitDefEqProofs only [go_sem, simprocAttr, ints]) (.inl rfl) ?_
  simp -implicitDefEqProofs only [go_sem, simprocAttr]
  refine call1 [] false (t68) ?_
  simp -implicitDefEqProofs only [go_sem, simprocAttr]
  refine call0 [26] false c34 (by simp -implicitDefEqProofs only [go_sem, simprocAttr, ints]) (.inl rfl) ?_
  simp -implicitDefEqProofs only [go_sem, simprocAttr]
  refine call1 [] false (t68) ?_
  simp -implicitDefEqProofs only [go_sem, simprocAttr]
  refine call0 [72] false c39 (by simp -implicitDefEqProofs only [go_sem, simprocAttr, ints]) (.inl rfl) ?_
  simp -implicitDefEqProofs only [go_sem, simprocAttr]
  refine call1 [] false (t68) ?_
  simp -implicitDefEqProofs only [go_sem, simprocAttr]
  refine call0 [81, 82] false c43 (by simp -implicitDefEqProofs only [go_sem, simprocAttr, ints]) (.inl rfl) ?_
  simp -implicitDefEqProofs only [go_sem, simprocAttr]
  refine call1 [] false (t68) ?_
  simp -implicitDefEqProofs only [go_sem, simprocAttr]
  refine call0 [26, 89] false c45 (by simp -implicitDefEqProofs only [go_sem, simprocAttr, ints]) (.inl rfl) ?_
  simp -implicitDefEqProofs only [go_sem, simprocAttr]
  refine call1 [] false (t68) ?_
  simp -implicitDefEqProofs only [go_sem, simprocAttr]
  refine call1 [] false (t67 40 45) ?_
  simp -implicitDefEqProofs only [go_sem, simprocAttr]
  refine call0 [95, 96] false c47 (by simp -implicitDefEqProofs only [go_sem, simprocAttr, ints]) (.inl rfl) ?_
  simp -implicitDefEqProofs only [go_sem, simprocAttr]
  refine call0 [] true (t24s (sa := lstN (ints [5, 5, 6])) (sb := .list false (ints [5, 5, 6])) (a := [5, 5, 6]) rfl rfl (by decide)) (by simp -implicitDefEqProofs only [go_sem, simprocAttr, ints] <;> rfl) (.inr rfl) ?_
  simp -implicitDefEqProofs only [go_sem, simprocAttr]
  refine call0 [] true (t24s (sa := lstN (ints [2, 5, 6])) (sb := .list false (ints [2, 5, 6])) (a := [2, 5, 6]) rfl rfl (by decide)) (by simp -implicitDefEqProofs only [go_sem, simprocAttr, ints] <;> rfl) (.inr rfl) ?_
  simp -implicitDefEqProofs only [go_sem, simprocAttr]
  refine call0 [] true (t24s (sa := optN (some [0])) (sb := .list false (ints [0])) (a := [0]) rfl rfl (by decide)) (by simp -implicitDefEqProofs only [go_sem, simprocAttr, ints] <;> rfl) (.inr rfl) ?_
  simp -implicitDefEqProofs only [go_sem, simprocAttr]
  refine call0 [] true (t24s (sa := .list false (ints [0, 1])) (sb := .list false (ints [0, 1])) (a := [0, 1]) rfl rfl (by decide)) (by simp -implicitDefEqProofs only [go_sem, simprocAttr, ints] <;> rfl) (.inr rfl) ?_
  simp -implicitDefEqProofs only [go_sem, simprocAttr]
  refine call0 [] true (t24s (sa := .list false (ints [2, 1])) (sb := .list false (ints [2, 1])) (a := [2, 1]) rfl rfl (by decide)) (by simp -implicitDefEqProofs only [go_sem, simprocAttr, ints] <;> rfl) (.inr rfl) ?_
  simp -implicitDefEqProofs only [go_sem, simprocAttr]
  refine call0 [] true (t24s (sa := lstN (ints [2])) (sb := .list false (ints [2])) (a := [2]) rfl rfl (by decide)) (by simp -implicitDefEqProofs only [go_sem, simprocAttr, ints] <;> rfl) (.inr rfl) ?_
  simp -implicitDefEqProofs only [go_sem, simprocAttr]
  refine call0 [190] true (t40s (A := [[0, 1, 3]]) (lists_of (W := [[0, 1, 3]]) (by decide)) (lists_of (W := [[0, 1, 3]]) (by decide)) (by decide) (by decide)) (by simp -implicitDefEqProofs only [go_sem, simprocAttr, ints] <;> rfl) (.inr rfl) ?_
  simp -implicitDefEqProofs only [go_sem, simprocAttr]
  exact ret_fv
end S04

