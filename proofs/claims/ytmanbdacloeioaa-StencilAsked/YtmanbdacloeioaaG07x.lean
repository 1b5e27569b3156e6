/- A part of the proof: G07x. -/
import Derived.Test.YtmanbdacloeioaaG07v
set_option linter.unusedVariables false
set_option linter.unusedSimpArgs false
set_option maxRecDepth 20000
namespace S07
open Go Abs
theorem t14 : Fn Q 14 [] (.one (.fx (.bool true))) := by
  have i1 := t17 (s := .list false (ints sK)) (l := sK) rfl (by decide)
  have i2 := t17 (s := .list false (ints fK)) (l := fK) rfl (by decide)
  refine fn_intro Go.Proofs.Try.func14 rfl (by kernel_rfl) mix (k14 0) (Nat.le_of_ble_eq_true (by kernel_rfl)) ?_
  refine Abs.walk ?_
  unfold c14 sop
  simp -implicitDefEqProofs only [go_sem, simprocAttr]
  refine W_opsD _ _ _ (Vs [[], [], [], [], [], [26]]) ?_ ?_
  · decide
  simp -implicitDefEqProofs only [go_sem, simprocAttr]
  refine call1 [] false (t57) ?_
  simp -implicitDefEqProofs only [go_sem, simprocAttr]
  refine call1 [] false (t58) ?_
  simp -implicitDefEqProofs only [go_sem, simprocAttr, lsV, lsF, WK, List.map_cons, ints]
  refine callD [26] false [.fo (.list false (ints sK))] [] i1 ⟨rfl, trivial⟩ rfl (.inl rfl) ?_
  simp -implicitDefEqProofs only [go_sem, simprocAttr, sK, ints]
  refine call1 [] false (v45) ?_
  simp -implicitDefEqProofs only [go_sem, simprocAttr, ints]
  refine W_opsD _ _ _ (Vs [[], [], [], [], [], [26]]) ?_ ?_
  · decide
  simp -implicitDefEqProofs only [go_sem, simprocAttr]
  refine call1 [] false (t57) ?_
  simp -implicitDefEqProofs only [go_sem, simprocAttr]
  refine call1 [] false (t58) ?_
  simp -implicitDefEqProofs only [go_sem, simprocAttr, lsV, lsF, WK, List.map_cons, ints]
  refine callD [26] false [.fo (.list false (ints sK))] [] i1 ⟨rfl, trivial⟩ rfl (.inl rfl) ?_
  simp -implicitDefEqProofs only [go_sem, simprocAttr, sK, ints]
  refine call1 [] false (v47) ?_
  simp -implicitDefEqProofs only [go_sem, simprocAttr, ints]
  refine call1 [] false (t57) ?_
  simp -implicitDefEqProofs only [go_sem, simprocAttr]
  refine call1 [] false (t58) ?_
  simp -implicitDefEqProofs only [go_sem, simprocAttr]
  refine call1 [] false (i1) ?_
  simp -implicitDefEqProofs only [go_sem, simprocAttr]
  refine call1 [] false (v18a) ?_
  simp -implicitDefEqProofs only [go_sem, simprocAttr, ints]
  refine call1 [] false (t57) ?_
  simp -implicitDefEqProofs only [go_sem, simprocAttr]
  refine call1 [] false (t58) ?_
  simp -implicitDefEqProofs only [go_sem, simprocAttr]
  refine call1 [] false (i1) ?_
  simp -implicitDefEqProofs only [go_sem, simprocAttr]
  refine call1 [] false (v18b) ?_
  simp -implicitDefEqProofs only [go_sem, simprocAttr, ints]
  refine call1 [] false (t57) ?_
  simp -implicitDefEqProofs only [go_sem, simprocAttr]
  refine call1 [] false (t58) ?_
  simp -implicitDefEqProofs only [go_sem, simprocAttr]
  refine call1 [] false (i1) ?_
  simp -implicitDefEqProofs only [go_sem, simprocAttr]
  refine call1 [] false (v19) ?_
  simp -implicitDefEqProofs only [go_sem, simprocAttr, ints]
  refine call1 [] false (t57) ?_
  simp -implicitDefEqProofs only [go_sem, simprocAttr]
  refine call1 [27] false (i2) ?_
  simp -implicitDefEqProofs only [go_sem, simprocAttr]
  refine call1 [] false (i1) ?_
  simp -implicitDefEqProofs only [go_sem, simprocAttr]
  refine call1 [] false (v29) ?_
  simp -implicitDefEqProofs only [go_sem, simprocAttr, ints]
  refine call1 [] false (t57) ?_
  simp -implicitDefEqProofs only [go_sem, simprocAttr]
  refine call1 [] false (i2) ?_
  simp -implicitDefEqProofs only [go_sem, simprocAttr]
  refine call1 [87] false (v30) ?_
  simp -implicitDefEqProofs only [go_sem, simprocAttr, ints]
  refine call1 [] false (t57) ?_
  simp -implicitDefEqProofs only [go_sem, simprocAttr]
  refine call1 [] false (i2) ?_
  simp -implicitDefEqProofs only [go_sem, simprocAttr]
  refine call1 [97] false (v35) ?_
  simp -implicitDefEqProofs only [go_sem, simprocAttr, ints]
  refine call1 [] false (t57) ?_
  simp -implicitDefEqProofs only [go_sem, simprocAttr]
  refine call1 [] false (t59) ?_
  simp -implicitDefEqProofs only [go_sem, simprocAttr]
  refine call1 [104] false (v37) ?_
  simp -implicitDefEqProofs only [go_sem, simprocAttr, ints]
  refine call1 [] false (t57) ?_
  simp -implicitDefEqProofs only [go_sem, simprocAttr]
  refine call1 [] false (t59) ?_
  simp -implicitDefEqProofs only [go_sem, simprocAttr]
  refine call1 [111] false (v38) ?_
  simp -implicitDefEqProofs only [go_sem, simprocAttr, ints]
  refine call1 [] false (t48 (s := .list false (ints [1])) (l := [1]) rfl (by decide)) ?_
  simp -implicitDefEqProofs only [go_sem, simprocAttr]
  refine call1 [] true (kI22 [1] [1] (f := false) (g := false) (by decide) (by decide) rfl rfl) ?_
  simp -implicitDefEqProofs only [go_sem, simprocAttr]
  refine call1 [] false (t48 (s := .list false (ints [0, 1])) (l := [0, 1]) rfl (by decide)) ?_
  simp -implicitDefEqProofs only [go_sem, simprocAttr]
  refine call1 [] true (kI22 [0, 1] [0, 1] (f := false) (g := false) (by decide) (by decide) rfl rfl) ?_
  simp -implicitDefEqProofs only [go_sem, simprocAttr]
  refine call1 [] false (t48 (s := .list false (ints [0])) (l := [0]) rfl (by decide)) ?_
  simp -implicitDefEqProofs only [go_sem, simprocAttr]
  refine call1 [] true (kI22 [0] [0] (f := false) (g := false) (by decide) (by decide) rfl rfl) ?_
  simp -implicitDefEqProofs only [go_sem, simprocAttr]
  refine call1 [] false (t48 (s := .list false (ints [1, 0, 0])) (l := [1, 0, 0]) rfl (by decide)) ?_
  simp -implicitDefEqProofs only [go_sem, simprocAttr]
  refine call1 [] true (kI22 [1, 0, 0] [1, 0, 0] (f := false) (g := false) (by decide) (by decide) rfl rfl) ?_
  simp -implicitDefEqProofs only [go_sem, simprocAttr]
  refine call1 [] true (kI22 [0, 1] [0, 1] (f := false) (g := false) (by decide) (by decide) rfl rfl) ?_
  simp -implicitDefEqProofs only [go_sem, simprocAttr]
  refine call1 [] true (kI22 [0, 1, 2] [0, 1, 2] (f := false) (g := false) (by decide) (by decide) rfl rfl) ?_
  simp -implicitDefEqProofs only [go_sem, simprocAttr]
  refine call1 [] true (kI22 [0, 3, 4] [0, 3, 4] (f := false) (g := false) (by decide) (by decide) rfl rfl) ?_
  simp -implicitDefEqProofs only [go_sem, simprocAttr]
  refine call1 [] true (kI22 [0] [0] (f := false) (g := false) (by decide) (by decide) rfl rfl) ?_
  simp -implicitDefEqProofs only [go_sem, simprocAttr]
  refine call1 [] true (kI22 [0, 1, 0, 0, 0] [0, 1, 0, 0, 0] (f := false) (g := false) (by decide) (by decide) rfl rfl) ?_
  simp -implicitDefEqProofs only [go_sem, simprocAttr]
  refine call1 [] true (t21 (lsV_lists [[0, 1], [1, 2]] (by simp)) (lsV_lists [[0, 1], [1, 2]] (by simp)) (by decide) (by decide) (by simp [I64]) (by simp [I64])) ?_
  simp -implicitDefEqProofs only [go_sem, simprocAttr]
  refine call1 [] true (kI22 [1] [1] (f := false) (g := false) (by decide) (by decide) rfl rfl) ?_
  simp -implicitDefEqProofs only [go_sem, simprocAttr]
  refine call1 [] true (kI22 [0, 1, 2] [0, 1, 2] (f := false) (g := false) (by decide) (by decide) rfl rfl) ?_
  simp -implicitDefEqProofs only [go_sem, simprocAttr]
  exact ret_fv
end S07

