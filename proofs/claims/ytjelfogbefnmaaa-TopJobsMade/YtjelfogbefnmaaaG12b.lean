/- A part of the proof: G12b. -/
import Derived.Test.YtjelfogbefnmaaaG12a
set_option linter.unusedVariables false
set_option linter.unusedSimpArgs false
set_option maxRecDepth 20000
namespace S12
open Go Abs
def inB (a b n : Int) : Bool := !(decide (n < a) || decide (n > b))
theorem t41 (a b n : Int) : Fn Q 41 [.fo (.int n), .fo (.ptr [.int a]), .fo (.ptr [.int b])] (.one (.fx (.bool (!inB a b n)))) := by
  refine fn_intro Go.Proofs.Try.func41 rfl (by kernel_rfl) mix (k41 0) (Nat.le_of_ble_eq_true (by kernel_rfl)) ?_
  refine Abs.walk ?_
  unfold c41
  simp -implicitDefEqProofs only [go_sem, ↓reduceIte, Nat.reduceAdd, Nat.reduceSub, Nat.reduceMul, Nat.reduceEqDiff, Nat.reduceLeDiff, Nat.reduceLT, Int.reduceLT, Int.reduceLE, Int.reduceNeg, Int.reduceAdd, Int.reduceToNat, reduceCtorEq, Int.reduceTDiv, Int.reduceTMod, Int.reduceSub, Int.reduceGT, Int.reduceGE, Int.reduceEq, Int.reduceNe, Int.reduceBEq, Int.reduceBNe, Int.reduceMul, Nat.reduceBNe, Nat.reduceBEq]
  refine brL (fun h1 => ?_) (fun h1 => ?_)
  · simp -implicitDefEqProofs only [go_sem, ↓reduceIte, Nat.reduceAdd, Nat.reduceSub, Nat.reduceMul, Nat.reduceEqDiff, Nat.reduceLeDiff, Nat.reduceLT, Int.reduceLT, Int.reduceLE, Int.reduceNeg, Int.reduceAdd, Int.reduceToNat, reduceCtorEq, Int.reduceTDiv, Int.reduceTMod, Int.reduceSub, Int.reduceGT, Int.reduceGE, Int.reduceEq, Int.reduceNe, Int.reduceBEq, Int.reduceBNe, Int.reduceMul, Nat.reduceBNe, Nat.reduceBEq, h1]
    exact ret_eq (by simp_all [inB] <;> omega)
  · simp -implicitDefEqProofs only [go_sem, ↓reduceIte, Nat.reduceAdd, Nat.reduceSub, Nat.reduceMul, Nat.reduceEqDiff, Nat.reduceLeDiff, Nat.reduceLT, Int.reduceLT, Int.reduceLE, Int.reduceNeg, Int.reduceAdd, Int.reduceToNat, reduceCtorEq, Int.reduceTDiv, Int.reduceTMod, Int.reduceSub, Int.reduceGT, Int.reduceGE, Int.reduceEq, Int.reduceNe, Int.reduceBEq, Int.reduceBNe, Int.reduceMul, Nat.reduceBNe, Nat.reduceBEq, h1]
    exact ret_eq (by simp_all [inB] <;> omega)
theorem t47 (a b n : Int) : Fn Q 47 [.fo (.int n), .fo (.ptr [.int a]), .fo (.ptr [.int b])] (.one (.fx (.bool (!inB a b n)))) := by
  refine fn_intro Go.Proofs.Try.func47 rfl (by kernel_rfl) mix (k47 0) (Nat.le_of_ble_eq_true (by kernel_rfl)) ?_
  refine Abs.walk ?_
  unfold c47
  simp -implicitDefEqProofs only [go_sem, ↓reduceIte, Nat.reduceAdd, Nat.reduceSub, Nat.reduceMul, Nat.reduceEqDiff, Nat.reduceLeDiff, Nat.reduceLT, Int.reduceLT, Int.reduceLE, Int.reduceNeg, Int.reduceAdd, Int.reduceToNat, reduceCtorEq, Int.reduceTDiv, Int.reduceTMod, Int.reduceSub, Int.reduceGT, Int.reduceGE, Int.reduceEq, Int.reduceNe, Int.reduceBEq, Int.reduceBNe, Int.reduceMul, Nat.reduceBNe, Nat.reduceBEq]
  refine brL (fun h1 => ?_) (fun h1 => ?_)
  · simp -implicitDefEqProofs only [go_sem, ↓reduceIte, Nat.reduceAdd, Nat.reduceSub, Nat.reduceMul, Nat.reduceEqDiff, Nat.reduceLeDiff, Nat.reduceLT, Int.reduceLT, Int.reduceLE, Int.reduceNeg, Int.reduceAdd, Int.reduceToNat, reduceCtorEq, Int.reduceTDiv, Int.reduceTMod, Int.reduceSub, Int.reduceGT, Int.reduceGE, Int.reduceEq, Int.reduceNe, Int.reduceBEq, Int.reduceBNe, Int.reduceMul, Nat.reduceBNe, Nat.reduceBEq, h1]
    exact ret_eq (by simp_all [inB] <;> omega)
  · simp -implicitDefEqProofs only [go_sem, ↓reduceIte, Nat.reduceAdd, Nat.reduceSub, Nat.reduceMul, Nat.reduceEqDiff, Nat.reduceLeDiff, Nat.reduceLT, Int.reduceLT, Int.reduceLE, Int.reduceNeg, Int.reduceAdd, Int.reduceToNat, reduceCtorEq, Int.reduceTDiv, Int.reduceTMod, Int.reduceSub, Int.reduceGT, Int.reduceGE, Int.reduceEq, Int.reduceNe, Int.reduceBEq, Int.reduceBNe, Int.reduceMul, Nat.reduceBNe, Nat.reduceBEq, h1]
    exact ret_eq (by simp_all [inB] <;> omega)
theorem t19 (a b : Int) (s : FV) (l : List Int) (hs : lsOf s = some (ints l)) (hl : l.length ≤ 9223372036854775807) : Fn Q 19 [.fo (.int a), .fo (.int b), .fo s] (.one (.fx (.bool (l.all (inB a b))))) := by
  refine fn_intro Go.Proofs.Try.func19 rfl (by kernel_rfl) mix (k19 0) (Nat.le_of_ble_eq_true (by kernel_rfl)) ?_
  refine Abs.walk ?_
  unfold c19
  simp -implicitDefEqProofs only [go_sem, ↓reduceIte, Nat.reduceAdd, Nat.reduceSub, Nat.reduceMul, Nat.reduceEqDiff, Nat.reduceLeDiff, Nat.reduceLT, Int.reduceLT, Int.reduceLE, Int.reduceNeg, Int.reduceAdd, Int.reduceToNat, reduceCtorEq, Int.reduceTDiv, Int.reduceTMod, Int.reduceSub, Int.reduceGT, Int.reduceGE, Int.reduceEq, Int.reduceNe, Int.reduceBEq, Int.reduceBNe, Int.reduceMul, Nat.reduceBNe, Nat.reduceBEq]
  refine callC t40 true (fun x => !inB a b x.toI) (by rfl) hs (ints_elem l) (by rw [ints_length]; exact hl) en41 (by rfl) ?_ ?_
  · intro x hx
    obtain ⟨n, _, rfl⟩ := List.mem_map.1 hx
    exact t41 a b n
  · simp -implicitDefEqProofs only [go_sem, ↓reduceIte, Nat.reduceAdd, Nat.reduceSub, Nat.reduceMul, Nat.reduceEqDiff, Nat.reduceLeDiff, Nat.reduceLT, Int.reduceLT, Int.reduceLE, Int.reduceNeg, Int.reduceAdd, Int.reduceToNat, reduceCtorEq, Int.reduceTDiv, Int.reduceTMod, Int.reduceSub, Int.reduceGT, Int.reduceGE, Int.reduceEq, Int.reduceNe, Int.reduceBEq, Int.reduceBNe, Int.reduceMul, Nat.reduceBNe, Nat.reduceBEq, ints_any l (fun n => !inB a b n)]
    exact ret_eq (by simp [List.all_eq_not_any_not])
theorem t27 (a b : Int) (s : FV) (l : List Int) (hs : lsOf s = some (ints l)) (hl : l.length ≤ 9223372036854775807) : Fn Q 27 [.fo (.int a), .fo (.int b), .fo s] (.one (.fx (.bool (l.all (inB a b))))) := by
  refine fn_intro Go.Proofs.Try.func27 rfl (by kernel_rfl) mix (k27 0) (Nat.le_of_ble_eq_true (by kernel_rfl)) ?_
  refine Abs.walk ?_
  unfold c27
  simp -implicitDefEqProofs only [go_sem, ↓reduceIte, Nat.reduceAdd, Nat.reduceSub, Nat.reduceMul, Nat.reduceEqDiff, Nat.reduceLeDiff, Nat.reduceLT, Int.reduceLT, Int.reduceLE, Int.reduceNeg, Int.reduceAdd, Int.reduceToNat, reduceCtorEq, Int.reduceTDiv, Int.reduceTMod, Int.reduceSub, Int.reduceGT, Int.reduceGE, Int.reduceEq, Int.reduceNe, Int.reduceBEq, Int.reduceBNe, Int.reduceMul, Nat.reduceBNe, Nat.reduceBEq]
  refine callC t40 true (fun x => !inB a b x.toI) (by rfl) hs (ints_elem l) (by rw [ints_length]; exact hl) en47 (by rfl) ?_ ?_
  · intro x hx
    obtain ⟨n, _, rfl⟩ := List.mem_map.1 hx
    exact t47 a b n
  · simp -implicitDefEqProofs only [go_sem, ↓reduceIte, Nat.reduceAdd, Nat.reduceSub, Nat.reduceMul, Nat.reduceEqDiff, Nat.reduceLeDiff, Nat.reduceLT, Int.reduceLT, Int.reduceLE, Int.reduceNeg, Int.reduceAdd, Int.reduceToNat, reduceCtorEq, Int.reduceTDiv, Int.reduceTMod, Int.reduceSub, Int.reduceGT, Int.reduceGE, Int.reduceEq, Int.reduceNe, Int.reduceBEq, Int.reduceBNe, Int.reduceMul, Nat.reduceBNe, Nat.reduceBEq, ints_any l (fun n => !inB a b n)]
    exact ret_eq (by simp [List.all_eq_not_any_not])
def span (a b : Int) : FV := .agg [.int a, .int b]
theorem t6 (a b : Int) : Fn Q 6 [.fo (.int a), .fo (.int b)] (.one (.fx (span a b))) := by
  refine fn_intro Go.Proofs.Try.func6 rfl (by kernel_rfl) mix (k6 0) (Nat.le_of_ble_eq_true (by kernel_rfl)) ?_
  refine Abs.walk ?_
  unfold c6
  simp -implicitDefEqProofs only [go_sem, ↓reduceIte, Nat.reduceAdd, Nat.reduceSub, Nat.reduceMul, Nat.reduceEqDiff, Nat.reduceLeDiff, Nat.reduceLT, Int.reduceLT, Int.reduceLE, Int.reduceNeg, Int.reduceAdd, Int.reduceToNat, reduceCtorEq, Int.reduceTDiv, Int.reduceTMod, Int.reduceSub, Int.reduceGT, Int.reduceGE, Int.reduceEq, Int.reduceNe, Int.reduceBEq, Int.reduceBNe, Int.reduceMul, Nat.reduceBNe, Nat.reduceBEq]
  exact ret_fv
def okSpan (a b lo hi : Int) : Bool := inB a b lo && inB a b hi && decide (lo ≤ hi)
theorem t45 (a b lo hi : Int) : Fn Q 45 [.fo (.int a), .fo (.int b), .fo (span lo hi)] (.one (.fx (.bool (okSpan a b lo hi)))) := by
  refine fn_intro Go.Proofs.Try.func45 rfl (by kernel_rfl) mix (k45 0) (Nat.le_of_ble_eq_true (by kernel_rfl)) ?_
  refine Abs.walk ?_
  unfold c45
  simp -implicitDefEqProofs only [go_sem, ↓reduceIte, Nat.reduceAdd, Nat.reduceSub, Nat.reduceMul, Nat.reduceEqDiff, Nat.reduceLeDiff, Nat.reduceLT, Int.reduceLT, Int.reduceLE, Int.reduceNeg, Int.reduceAdd, Int.reduceToNat, reduceCtorEq, Int.reduceTDiv, Int.reduceTMod, Int.reduceSub, Int.reduceGT, Int.reduceGE, Int.reduceEq, Int.reduceNe, Int.reduceBEq, Int.reduceBNe, Int.reduceMul, Nat.reduceBNe, Nat.reduceBEq, span]
  refine callF [] true [.fo (.int a), .fo (.int b), .fo (.list false [.int lo, .int hi])] [] (t27 a b _ [lo, hi] rfl (by simp)) ⟨rfl, rfl, rfl, trivial⟩ rfl (.inr rfl) ?_
  simp -implicitDefEqProofs only [go_sem, ↓reduceIte, Nat.reduceAdd, Nat.reduceSub, Nat.reduceMul, Nat.reduceEqDiff, Nat.reduceLeDiff, Nat.reduceLT, Int.reduceLT, Int.reduceLE, Int.reduceNeg, Int.reduceAdd, Int.reduceToNat, reduceCtorEq, Int.reduceTDiv, Int.reduceTMod, Int.reduceSub, Int.reduceGT, Int.reduceGE, Int.reduceEq, Int.reduceNe, Int.reduceBEq, Int.reduceBNe, Int.reduceMul, Nat.reduceBNe, Nat.reduceBEq]
  refine brL (fun h1 => ?_) (fun h1 => ?_)
  · simp -implicitDefEqProofs only [go_sem, ↓reduceIte, Nat.reduceAdd, Nat.reduceSub, Nat.reduceMul, Nat.reduceEqDiff, Nat.reduceLeDiff, Nat.reduceLT, Int.reduceLT, Int.reduceLE, Int.reduceNeg, Int.reduceAdd, Int.reduceToNat, reduceCtorEq, Int.reduceTDiv, Int.reduceTMod, Int.reduceSub, Int.reduceGT, Int.reduceGE, Int.reduceEq, Int.reduceNe, Int.reduceBEq, Int.reduceBNe, Int.reduceMul, Nat.reduceBNe, Nat.reduceBEq, h1]
    exact ret_eq (by simp_all [okSpan])
  · simp -implicitDefEqProofs only [go_sem, ↓reduceIte, Nat.reduceAdd, Nat.reduceSub, Nat.reduceMul, Nat.reduceEqDiff, Nat.reduceLeDiff, Nat.reduceLT, Int.reduceLT, Int.reduceLE, Int.reduceNeg, Int.reduceAdd, Int.reduceToNat, reduceCtorEq, Int.reduceTDiv, Int.reduceTMod, Int.reduceSub, Int.reduceGT, Int.reduceGE, Int.reduceEq, Int.reduceNe, Int.reduceBEq, Int.reduceBNe, Int.reduceMul, Nat.reduceBNe, Nat.reduceBEq, h1]
    exact ret_eq (by simp_all [okSpan])
theorem t53 (a b lo hi : Int) : Fn Q 53 [.fo (.int a), .fo (.int b), .fo (span lo hi)] (.one (.fx (.bool (okSpan a b lo hi)))) := by
  refine fn_intro Go.Proofs.Try.func53 rfl (by kernel_rfl) mix (k53 0) (Nat.le_of_ble_eq_true (by kernel_rfl)) ?_
  refine Abs.walk ?_
  unfold c53
  simp -implicitDefEqProofs only [go_sem, ↓reduceIte, Nat.reduceAdd, Nat.reduceSub, Nat.reduceMul, Nat.reduceEqDiff, Nat.reduceLeDiff, Nat.reduceLT, Int.reduceLT, Int.reduceLE, Int.reduceNeg, Int.reduceAdd, Int.reduceToNat, reduceCtorEq, Int.reduceTDiv, Int.reduceTMod, Int.reduceSub, Int.reduceGT, Int.reduceGE, Int.reduceEq, Int.reduceNe, Int.reduceBEq, Int.reduceBNe, Int.reduceMul, Nat.reduceBNe, Nat.reduceBEq, span]
  refine callF [] true [.fo (.int a), .fo (.int b), .fo (.list false [.int lo, .int hi])] [] (t19 a b _ [lo, hi] rfl (by simp)) ⟨rfl, rfl, rfl, trivial⟩ rfl (.inr rfl) ?_
  simp -implicitDefEqProofs only [go_sem, ↓reduceIte, Nat.reduceAdd, Nat.reduceSub, Nat.reduceMul, Nat.reduceEqDiff, Nat.reduceLeDiff, Nat.reduceLT, Int.reduceLT, Int.reduceLE, Int.reduceNeg, Int.reduceAdd, Int.reduceToNat, reduceCtorEq, Int.reduceTDiv, Int.reduceTMod, Int.reduceSub, Int.reduceGT, Int.reduceGE, Int.reduceEq, Int.reduceNe, Int.reduceBEq, Int.reduceBNe, Int.reduceMul, Nat.reduceBNe, Nat.reduceBEq]
  refine brL (fun h1 => ?_) (fun h1 => ?_)
  · simp -implicitDefEqProofs only [go_sem, ↓reduceIte, Nat.reduceAdd, Nat.reduceSub, Nat.reduceMul, Nat.reduceEqDiff, Nat.reduceLeDiff, Nat.reduceLT, Int.reduceLT, Int.reduceLE, Int.reduceNeg, Int.reduceAdd, Int.reduceToNat, reduceCtorEq, Int.reduceTDiv, Int.reduceTMod, Int.reduceSub, Int.reduceGT, Int.reduceGE, Int.reduceEq, Int.reduceNe, Int.reduceBEq, Int.reduceBNe, Int.reduceMul, Nat.reduceBNe, Nat.reduceBEq, h1]
    exact ret_eq (by simp_all [okSpan])
  · simp -implicitDefEqProofs only [go_sem, ↓reduceIte, Nat.reduceAdd, Nat.reduceSub, Nat.reduceMul, Nat.reduceEqDiff, Nat.reduceLeDiff, Nat.reduceLT, Int.reduceLT, Int.reduceLE, Int.reduceNeg, Int.reduceAdd, Int.reduceToNat, reduceCtorEq, Int.reduceTDiv, Int.reduceTMod, Int.reduceSub, Int.reduceGT, Int.reduceGE, Int.reduceEq, Int.reduceNe, Int.reduceBEq, Int.reduceBNe, Int.reduceMul, Nat.reduceBNe, Nat.reduceBEq, h1]
    exact ret_eq (by simp_all [okSpan])
end S12

