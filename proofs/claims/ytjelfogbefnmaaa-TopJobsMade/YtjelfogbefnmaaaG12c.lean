/- A part of the proof: G12c. -/
import Derived.Test.YtjelfogbefnmaaaG12b
import Derived.Test.YtjelfogbefnmaaaAbsY
set_option linter.unusedVariables false
set_option linter.unusedSimpArgs false
set_option maxRecDepth 20000
namespace S12
open Go Abs
def slip (lo hi : Int) : FV := .agg [.int 3, .int 4, .int lo, .int hi, .int 1]
def works (lo hi : Int) : FV := .agg [.list false [slip lo hi], .int 3, .int 4]
theorem t17 (lo hi : Int) : Fn Q 17 [.fo (.int 3), .fo (.int 4), .fo (span lo hi), .fo (.list false [span 3 4])] (.one (.fx (works lo hi))) := by
  refine fn_intro Go.Proofs.Try.func17 rfl (by kernel_rfl) mix (k17 0) (Nat.le_of_ble_eq_true (by kernel_rfl)) ?_
  refine Abs.walk ?_
  unfold c17
  simp -implicitDefEqProofs only [go_sem, ↓reduceIte, Nat.reduceAdd, Nat.reduceSub, Nat.reduceMul, Nat.reduceEqDiff, Nat.reduceLeDiff, Nat.reduceLT, Int.reduceLT, Int.reduceLE, Int.reduceNeg, Int.reduceAdd, Int.reduceToNat, reduceCtorEq, Int.reduceTDiv, Int.reduceTMod, Int.reduceSub, Int.reduceGT, Int.reduceGE, Int.reduceEq, Int.reduceNe, Int.reduceBEq, Int.reduceBNe, Int.reduceMul, Nat.reduceBNe, Nat.reduceBEq, span]
  refine lp (n := 2) (lpStep ?_)
  simp -implicitDefEqProofs only [go_sem, ↓reduceIte, Nat.reduceAdd, Nat.reduceSub, Nat.reduceMul, Nat.reduceEqDiff, Nat.reduceLeDiff, Nat.reduceLT, Int.reduceLT, Int.reduceLE, Int.reduceNeg, Int.reduceAdd, Int.reduceToNat, reduceCtorEq, Int.reduceTDiv, Int.reduceTMod, Int.reduceSub, Int.reduceGT, Int.reduceGE, Int.reduceEq, Int.reduceNe, Int.reduceBEq, Int.reduceBNe, Int.reduceMul, Nat.reduceBNe, Nat.reduceBEq]
  refine W_opsD _ _ _ (Vs [[], [], [], [], [], [], [], [], [], [], [30]]) ?_ ?_
  · decide
  simp -implicitDefEqProofs only [go_sem, ↓reduceIte, Nat.reduceAdd, Nat.reduceSub, Nat.reduceMul, Nat.reduceEqDiff, Nat.reduceLeDiff, Nat.reduceLT, Int.reduceLT, Int.reduceLE, Int.reduceNeg, Int.reduceAdd, Int.reduceToNat, reduceCtorEq, Int.reduceTDiv, Int.reduceTMod, Int.reduceSub, Int.reduceGT, Int.reduceGE, Int.reduceEq, Int.reduceNe, Int.reduceBEq, Int.reduceBNe, Int.reduceMul, Nat.reduceBNe, Nat.reduceBEq]
  refine app_nil idx_25 (by decide) (by rfl) (by simp [FV.cells]) (by simp -implicitDefEqProofs only [go_sem, ↓reduceIte, Nat.reduceAdd, Nat.reduceSub, Nat.reduceMul, Nat.reduceEqDiff, Nat.reduceLeDiff, Nat.reduceLT, Int.reduceLT, Int.reduceLE, Int.reduceNeg, Int.reduceAdd, Int.reduceToNat, reduceCtorEq, Int.reduceTDiv, Int.reduceTMod, Int.reduceSub, Int.reduceGT, Int.reduceGE, Int.reduceEq, Int.reduceNe, Int.reduceBEq, Int.reduceBNe, Int.reduceMul, Nat.reduceBNe, Nat.reduceBEq]) (by simp -implicitDefEqProofs only [go_sem, ↓reduceIte, Nat.reduceAdd, Nat.reduceSub, Nat.reduceMul, Nat.reduceEqDiff, Nat.reduceLeDiff, Nat.reduceLT, Int.reduceLT, Int.reduceLE, Int.reduceNeg, Int.reduceAdd, Int.reduceToNat, reduceCtorEq, Int.reduceTDiv, Int.reduceTMod, Int.reduceSub, Int.reduceGT, Int.reduceGE, Int.reduceEq, Int.reduceNe, Int.reduceBEq, Int.reduceBNe, Int.reduceMul, Nat.reduceBNe, Nat.reduceBEq]) (by simp [maxLen]) ?_
  simp -implicitDefEqProofs only [go_sem, ↓reduceIte, Nat.reduceAdd, Nat.reduceSub, Nat.reduceMul, Nat.reduceEqDiff, Nat.reduceLeDiff, Nat.reduceLT, Int.reduceLT, Int.reduceLE, Int.reduceNeg, Int.reduceAdd, Int.reduceToNat, reduceCtorEq, Int.reduceTDiv, Int.reduceTMod, Int.reduceSub, Int.reduceGT, Int.reduceGE, Int.reduceEq, Int.reduceNe, Int.reduceBEq, Int.reduceBNe, Int.reduceMul, Nat.reduceBNe, Nat.reduceBEq]
  refine lpStep ?_
  simp -implicitDefEqProofs only [go_sem, ↓reduceIte, Nat.reduceAdd, Nat.reduceSub, Nat.reduceMul, Nat.reduceEqDiff, Nat.reduceLeDiff, Nat.reduceLT, Int.reduceLT, Int.reduceLE, Int.reduceNeg, Int.reduceAdd, Int.reduceToNat, reduceCtorEq, Int.reduceTDiv, Int.reduceTMod, Int.reduceSub, Int.reduceGT, Int.reduceGE, Int.reduceEq, Int.reduceNe, Int.reduceBEq, Int.reduceBNe, Int.reduceMul, Nat.reduceBNe, Nat.reduceBEq, List.isEmpty]
  exact ret_fx (fun _ => true) (by rfl)
theorem t8 (lo hi : Int) : Fn Q 8 [.fo (works lo hi)] (.one (.fx (works lo hi))) := by
  refine fn_intro Go.Proofs.Try.func8 rfl (by kernel_rfl) mix (k8 0) (Nat.le_of_ble_eq_true (by kernel_rfl)) ?_
  refine Abs.walk ?_
  unfold c8
  simp -implicitDefEqProofs only [go_sem, ↓reduceIte, Nat.reduceAdd, Nat.reduceSub, Nat.reduceMul, Nat.reduceEqDiff, Nat.reduceLeDiff, Nat.reduceLT, Int.reduceLT, Int.reduceLE, Int.reduceNeg, Int.reduceAdd, Int.reduceToNat, reduceCtorEq, Int.reduceTDiv, Int.reduceTMod, Int.reduceSub, Int.reduceGT, Int.reduceGE, Int.reduceEq, Int.reduceNe, Int.reduceBEq, Int.reduceBNe, Int.reduceMul, Nat.reduceBNe, Nat.reduceBEq, works, slip]
  refine app_gl (by rfl) idx_25 (by rfl) (by simp [FV.cells]) (by simp -implicitDefEqProofs only [go_sem, ↓reduceIte, Nat.reduceAdd, Nat.reduceSub, Nat.reduceMul, Nat.reduceEqDiff, Nat.reduceLeDiff, Nat.reduceLT, Int.reduceLT, Int.reduceLE, Int.reduceNeg, Int.reduceAdd, Int.reduceToNat, reduceCtorEq, Int.reduceTDiv, Int.reduceTMod, Int.reduceSub, Int.reduceGT, Int.reduceGE, Int.reduceEq, Int.reduceNe, Int.reduceBEq, Int.reduceBNe, Int.reduceMul, Nat.reduceBNe, Nat.reduceBEq]) (by simp -implicitDefEqProofs only [go_sem, ↓reduceIte, Nat.reduceAdd, Nat.reduceSub, Nat.reduceMul, Nat.reduceEqDiff, Nat.reduceLeDiff, Nat.reduceLT, Int.reduceLT, Int.reduceLE, Int.reduceNeg, Int.reduceAdd, Int.reduceToNat, reduceCtorEq, Int.reduceTDiv, Int.reduceTMod, Int.reduceSub, Int.reduceGT, Int.reduceGE, Int.reduceEq, Int.reduceNe, Int.reduceBEq, Int.reduceBNe, Int.reduceMul, Nat.reduceBNe, Nat.reduceBEq]) (by simp [maxLen]) (by simp) ?_
  simp -implicitDefEqProofs only [go_sem, ↓reduceIte, Nat.reduceAdd, Nat.reduceSub, Nat.reduceMul, Nat.reduceEqDiff, Nat.reduceLeDiff, Nat.reduceLT, Int.reduceLT, Int.reduceLE, Int.reduceNeg, Int.reduceAdd, Int.reduceToNat, reduceCtorEq, Int.reduceTDiv, Int.reduceTMod, Int.reduceSub, Int.reduceGT, Int.reduceGE, Int.reduceEq, Int.reduceNe, Int.reduceBEq, Int.reduceBNe, Int.reduceMul, Nat.reduceBNe, Nat.reduceBEq]
  exact ret_fx (fun _ => true) (by rfl)
theorem t26 (f : Bool) (n : Int) : Fn Q 26 [.fo (.list f [.int n])] (.one (.fx (.list false [.int n]))) := by
  refine fn_intro Go.Proofs.Try.func26 rfl (by kernel_rfl) mix (k26 0) (Nat.le_of_ble_eq_true (by kernel_rfl)) ?_
  refine Abs.walk ?_
  unfold c26
  simp -implicitDefEqProofs only [go_sem, ↓reduceIte, Nat.reduceAdd, Nat.reduceSub, Nat.reduceMul, Nat.reduceEqDiff, Nat.reduceLeDiff, Nat.reduceLT, Int.reduceLT, Int.reduceLE, Int.reduceNeg, Int.reduceAdd, Int.reduceToNat, reduceCtorEq, Int.reduceTDiv, Int.reduceTMod, Int.reduceSub, Int.reduceGT, Int.reduceGE, Int.reduceEq, Int.reduceNe, Int.reduceBEq, Int.reduceBNe, Int.reduceMul, Nat.reduceBNe, Nat.reduceBEq]
  refine app_gl (by rfl) idx_29 (by rfl) (by simp [FV.cells]) (by simp -implicitDefEqProofs only [go_sem, ↓reduceIte, Nat.reduceAdd, Nat.reduceSub, Nat.reduceMul, Nat.reduceEqDiff, Nat.reduceLeDiff, Nat.reduceLT, Int.reduceLT, Int.reduceLE, Int.reduceNeg, Int.reduceAdd, Int.reduceToNat, reduceCtorEq, Int.reduceTDiv, Int.reduceTMod, Int.reduceSub, Int.reduceGT, Int.reduceGE, Int.reduceEq, Int.reduceNe, Int.reduceBEq, Int.reduceBNe, Int.reduceMul, Nat.reduceBNe, Nat.reduceBEq]) (by simp -implicitDefEqProofs only [go_sem, ↓reduceIte, Nat.reduceAdd, Nat.reduceSub, Nat.reduceMul, Nat.reduceEqDiff, Nat.reduceLeDiff, Nat.reduceLT, Int.reduceLT, Int.reduceLE, Int.reduceNeg, Int.reduceAdd, Int.reduceToNat, reduceCtorEq, Int.reduceTDiv, Int.reduceTMod, Int.reduceSub, Int.reduceGT, Int.reduceGE, Int.reduceEq, Int.reduceNe, Int.reduceBEq, Int.reduceBNe, Int.reduceMul, Nat.reduceBNe, Nat.reduceBEq]) (by simp [maxLen]) (by simp) ?_
  simp -implicitDefEqProofs only [go_sem, ↓reduceIte, Nat.reduceAdd, Nat.reduceSub, Nat.reduceMul, Nat.reduceEqDiff, Nat.reduceLeDiff, Nat.reduceLT, Int.reduceLT, Int.reduceLE, Int.reduceNeg, Int.reduceAdd, Int.reduceToNat, reduceCtorEq, Int.reduceTDiv, Int.reduceTMod, Int.reduceSub, Int.reduceGT, Int.reduceGE, Int.reduceEq, Int.reduceNe, Int.reduceBEq, Int.reduceBNe, Int.reduceMul, Nat.reduceBNe, Nat.reduceBEq]
  exact ret_fx (fun _ => true) (by rfl)
def entF (x : Int × Int) : FV := .agg [.int x.1, .int 0, .int x.2]
def recF (f : Bool) (lo hi : Int) : FV := .agg [.list f [span lo hi]]
/-- A ledger of one good and one kind. -/
structure Book (b : FV) (st lo hi : Int) (es ms : List (Int × Int)) : Prop where
  el : es.length ≤ 100
  ml : ms.length ≤ 100
  eq : ∃ f1 f2 f3 se sm, b = .agg [.list f1 [.int st], se, .list f2 [recF f3 lo hi], sm] ∧ lsOf se = some (es.map entF) ∧ lsOf sm = some (ms.map entF)
def bookF (st lo hi : Int) (es ms : List (Int × Int)) : FV := .agg [.list false [.int st], .list false (es.map entF), .list false [recF false lo hi], .list false (ms.map entF)]
theorem t11 {b : FV} {st lo hi : Int} {es ms : List (Int × Int)} (hb : Book b st lo hi es ms) : Fn Q 11 [.fo b] (.one (.fx (bookF st lo hi es ms))) := by
  obtain ⟨el, ml, f1, f2, f3, se, sm, rfl, he, hm⟩ := hb
  have c3 : ∀ a, (entF a).cells.length = 3 := fun _ => rfl
  rcases ls_cases he with ⟨f4, rfl⟩ | ⟨rfl, he0⟩ <;> rcases ls_cases hm with ⟨f5, rfl⟩ | ⟨rfl, hm0⟩
  all_goals
    refine fn_intro Go.Proofs.Try.func11 rfl (by kernel_rfl) mix (k11 0) (Nat.le_of_ble_eq_true (by kernel_rfl)) ?_
    refine Abs.walk ?_
    unfold c11
    simp -implicitDefEqProofs only [go_sem, ↓reduceIte, Nat.reduceAdd, Nat.reduceSub, Nat.reduceMul, Nat.reduceEqDiff, Nat.reduceLeDiff, Nat.reduceLT, Int.reduceLT, Int.reduceLE, Int.reduceNeg, Int.reduceAdd, Int.reduceToNat, reduceCtorEq, Int.reduceTDiv, Int.reduceTMod, Int.reduceSub, Int.reduceGT, Int.reduceGE, Int.reduceEq, Int.reduceNe, Int.reduceBEq, Int.reduceBNe, Int.reduceMul, Nat.reduceBNe, Nat.reduceBEq, recF, span]
    refine W_opsD _ _ _ (Vs [[], [], [], [8], [], [], [8], [12], [], [], [12], [], [3], []]) ?_ ?_
    · decide
    simp -implicitDefEqProofs only [go_sem, ↓reduceIte, Nat.reduceAdd, Nat.reduceSub, Nat.reduceMul, Nat.reduceEqDiff, Nat.reduceLeDiff, Nat.reduceLT, Int.reduceLT, Int.reduceLE, Int.reduceNeg, Int.reduceAdd, Int.reduceToNat, reduceCtorEq, Int.reduceTDiv, Int.reduceTMod, Int.reduceSub, Int.reduceGT, Int.reduceGE, Int.reduceEq, Int.reduceNe, Int.reduceBEq, Int.reduceBNe, Int.reduceMul, Nat.reduceBNe, Nat.reduceBEq]
    refine callD [] false [.fo (.list f1 [.int st])] [] (t26 f1 st) ⟨rfl, trivial⟩ rfl (.inl rfl) ?_
    simp -implicitDefEqProofs only [go_sem, ↓reduceIte, Nat.reduceAdd, Nat.reduceSub, Nat.reduceMul, Nat.reduceEqDiff, Nat.reduceLeDiff, Nat.reduceLT, Int.reduceLT, Int.reduceLE, Int.reduceNeg, Int.reduceAdd, Int.reduceToNat, reduceCtorEq, Int.reduceTDiv, Int.reduceTMod, Int.reduceSub, Int.reduceGT, Int.reduceGE, Int.reduceEq, Int.reduceNe, Int.reduceBEq, Int.reduceBNe, Int.reduceMul, Nat.reduceBNe, Nat.reduceBEq]
    first
    | refine app_none (by rfl) idx_30 ?_
    | refine app_gl (by rfl) idx_30 (by rfl) (map_cells _ c3) (by simp -implicitDefEqProofs only [go_sem, ↓reduceIte, Nat.reduceAdd, Nat.reduceSub, Nat.reduceMul, Nat.reduceEqDiff, Nat.reduceLeDiff, Nat.reduceLT, Int.reduceLT, Int.reduceLE, Int.reduceNeg, Int.reduceAdd, Int.reduceToNat, reduceCtorEq, Int.reduceTDiv, Int.reduceTMod, Int.reduceSub, Int.reduceGT, Int.reduceGE, Int.reduceEq, Int.reduceNe, Int.reduceBEq, Int.reduceBNe, Int.reduceMul, Nat.reduceBNe, Nat.reduceBEq]) (by simp [byt_92]; omega) (by simp [maxLen]; omega) (by simp) ?_
    simp -implicitDefEqProofs only [go_sem, ↓reduceIte, Nat.reduceAdd, Nat.reduceSub, Nat.reduceMul, Nat.reduceEqDiff, Nat.reduceLeDiff, Nat.reduceLT, Int.reduceLT, Int.reduceLE, Int.reduceNeg, Int.reduceAdd, Int.reduceToNat, reduceCtorEq, Int.reduceTDiv, Int.reduceTMod, Int.reduceSub, Int.reduceGT, Int.reduceGE, Int.reduceEq, Int.reduceNe, Int.reduceBEq, Int.reduceBNe, Int.reduceMul, Nat.reduceBNe, Nat.reduceBEq]
    first
    | refine app_none (by rfl) idx_32 ?_
    | refine app_gl (by rfl) idx_32 (by rfl) (map_cells _ c3) (by simp -implicitDefEqProofs only [go_sem, ↓reduceIte, Nat.reduceAdd, Nat.reduceSub, Nat.reduceMul, Nat.reduceEqDiff, Nat.reduceLeDiff, Nat.reduceLT, Int.reduceLT, Int.reduceLE, Int.reduceNeg, Int.reduceAdd, Int.reduceToNat, reduceCtorEq, Int.reduceTDiv, Int.reduceTMod, Int.reduceSub, Int.reduceGT, Int.reduceGE, Int.reduceEq, Int.reduceNe, Int.reduceBEq, Int.reduceBNe, Int.reduceMul, Nat.reduceBNe, Nat.reduceBEq]) (by simp [byt_69]; omega) (by simp [maxLen]; omega) (by simp) ?_
    simp -implicitDefEqProofs only [go_sem, ↓reduceIte, Nat.reduceAdd, Nat.reduceSub, Nat.reduceMul, Nat.reduceEqDiff, Nat.reduceLeDiff, Nat.reduceLT, Int.reduceLT, Int.reduceLE, Int.reduceNeg, Int.reduceAdd, Int.reduceToNat, reduceCtorEq, Int.reduceTDiv, Int.reduceTMod, Int.reduceSub, Int.reduceGT, Int.reduceGE, Int.reduceEq, Int.reduceNe, Int.reduceBEq, Int.reduceBNe, Int.reduceMul, Nat.reduceBNe, Nat.reduceBEq]
    refine lp (n := 2) (lpStep ?_)
    simp -implicitDefEqProofs only [go_sem, ↓reduceIte, Nat.reduceAdd, Nat.reduceSub, Nat.reduceMul, Nat.reduceEqDiff, Nat.reduceLeDiff, Nat.reduceLT, Int.reduceLT, Int.reduceLE, Int.reduceNeg, Int.reduceAdd, Int.reduceToNat, reduceCtorEq, Int.reduceTDiv, Int.reduceTMod, Int.reduceSub, Int.reduceGT, Int.reduceGE, Int.reduceEq, Int.reduceNe, Int.reduceBEq, Int.reduceBNe, Int.reduceMul, Nat.reduceBNe, Nat.reduceBEq]
    refine W_opsD _ _ _ (Vs [[], [], [26], [], [], [], [], [], [], [26], [], [26, 35], [], []]) ?_ ?_
    · decide
    simp -implicitDefEqProofs only [go_sem, ↓reduceIte, Nat.reduceAdd, Nat.reduceSub, Nat.reduceMul, Nat.reduceEqDiff, Nat.reduceLeDiff, Nat.reduceLT, Int.reduceLT, Int.reduceLE, Int.reduceNeg, Int.reduceAdd, Int.reduceToNat, reduceCtorEq, Int.reduceTDiv, Int.reduceTMod, Int.reduceSub, Int.reduceGT, Int.reduceGE, Int.reduceEq, Int.reduceNe, Int.reduceBEq, Int.reduceBNe, Int.reduceMul, Nat.reduceBNe, Nat.reduceBEq]
    refine app_gl (by rfl) idx_40 (by rfl) (by simp [FV.cells]) (by simp -implicitDefEqProofs only [go_sem, ↓reduceIte, Nat.reduceAdd, Nat.reduceSub, Nat.reduceMul, Nat.reduceEqDiff, Nat.reduceLeDiff, Nat.reduceLT, Int.reduceLT, Int.reduceLE, Int.reduceNeg, Int.reduceAdd, Int.reduceToNat, reduceCtorEq, Int.reduceTDiv, Int.reduceTMod, Int.reduceSub, Int.reduceGT, Int.reduceGE, Int.reduceEq, Int.reduceNe, Int.reduceBEq, Int.reduceBNe, Int.reduceMul, Nat.reduceBNe, Nat.reduceBEq]) (by simp -implicitDefEqProofs only [go_sem, ↓reduceIte, Nat.reduceAdd, Nat.reduceSub, Nat.reduceMul, Nat.reduceEqDiff, Nat.reduceLeDiff, Nat.reduceLT, Int.reduceLT, Int.reduceLE, Int.reduceNeg, Int.reduceAdd, Int.reduceToNat, reduceCtorEq, Int.reduceTDiv, Int.reduceTMod, Int.reduceSub, Int.reduceGT, Int.reduceGE, Int.reduceEq, Int.reduceNe, Int.reduceBEq, Int.reduceBNe, Int.reduceMul, Nat.reduceBNe, Nat.reduceBEq]) (by simp [maxLen]) (by simp) ?_
    simp -implicitDefEqProofs only [go_sem, ↓reduceIte, Nat.reduceAdd, Nat.reduceSub, Nat.reduceMul, Nat.reduceEqDiff, Nat.reduceLeDiff, Nat.reduceLT, Int.reduceLT, Int.reduceLE, Int.reduceNeg, Int.reduceAdd, Int.reduceToNat, reduceCtorEq, Int.reduceTDiv, Int.reduceTMod, Int.reduceSub, Int.reduceGT, Int.reduceGE, Int.reduceEq, Int.reduceNe, Int.reduceBEq, Int.reduceBNe, Int.reduceMul, Nat.reduceBNe, Nat.reduceBEq]
    refine app_nil idx_31 (by decide) (by rfl) (by simp [FV.cells]) (by simp -implicitDefEqProofs only [go_sem, ↓reduceIte, Nat.reduceAdd, Nat.reduceSub, Nat.reduceMul, Nat.reduceEqDiff, Nat.reduceLeDiff, Nat.reduceLT, Int.reduceLT, Int.reduceLE, Int.reduceNeg, Int.reduceAdd, Int.reduceToNat, reduceCtorEq, Int.reduceTDiv, Int.reduceTMod, Int.reduceSub, Int.reduceGT, Int.reduceGE, Int.reduceEq, Int.reduceNe, Int.reduceBEq, Int.reduceBNe, Int.reduceMul, Nat.reduceBNe, Nat.reduceBEq]) (by simp -implicitDefEqProofs only [go_sem, ↓reduceIte, Nat.reduceAdd, Nat.reduceSub, Nat.reduceMul, Nat.reduceEqDiff, Nat.reduceLeDiff, Nat.reduceLT, Int.reduceLT, Int.reduceLE, Int.reduceNeg, Int.reduceAdd, Int.reduceToNat, reduceCtorEq, Int.reduceTDiv, Int.reduceTMod, Int.reduceSub, Int.reduceGT, Int.reduceGE, Int.reduceEq, Int.reduceNe, Int.reduceBEq, Int.reduceBNe, Int.reduceMul, Nat.reduceBNe, Nat.reduceBEq]) (by simp [maxLen]) ?_
    simp -implicitDefEqProofs only [go_sem, ↓reduceIte, Nat.reduceAdd, Nat.reduceSub, Nat.reduceMul, Nat.reduceEqDiff, Nat.reduceLeDiff, Nat.reduceLT, Int.reduceLT, Int.reduceLE, Int.reduceNeg, Int.reduceAdd, Int.reduceToNat, reduceCtorEq, Int.reduceTDiv, Int.reduceTMod, Int.reduceSub, Int.reduceGT, Int.reduceGE, Int.reduceEq, Int.reduceNe, Int.reduceBEq, Int.reduceBNe, Int.reduceMul, Nat.reduceBNe, Nat.reduceBEq]
    refine lpStep ?_
    simp -implicitDefEqProofs only [go_sem, ↓reduceIte, Nat.reduceAdd, Nat.reduceSub, Nat.reduceMul, Nat.reduceEqDiff, Nat.reduceLeDiff, Nat.reduceLT, Int.reduceLT, Int.reduceLE, Int.reduceNeg, Int.reduceAdd, Int.reduceToNat, reduceCtorEq, Int.reduceTDiv, Int.reduceTMod, Int.reduceSub, Int.reduceGT, Int.reduceGE, Int.reduceEq, Int.reduceNe, Int.reduceBEq, Int.reduceBNe, Int.reduceMul, Nat.reduceBNe, Nat.reduceBEq, List.isEmpty]
    first
    | exact ret_fx (fun _ => true) (by rfl)
    | exact ret_fx (fun _ => true) (by simp only [bookF, he0]; rfl)
    | exact ret_fx (fun _ => true) (by simp only [bookF, hm0]; rfl)
    | exact ret_fx (fun _ => true) (by simp only [bookF, he0, hm0]; rfl)
end S12

