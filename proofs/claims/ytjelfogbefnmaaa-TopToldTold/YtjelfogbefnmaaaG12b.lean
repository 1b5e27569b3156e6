/- A part of the proof: G12b, G12c. -/
import Derived.Test.YtjelfogbefnmaaaG12a
import Derived.Test.YtjelfogbefnmaaaAbsY
set_option linter.unusedVariables false
set_option linter.unusedSimpArgs false
set_option maxRecDepth 20000
namespace S12
open Go Abs
def inB (a b n : Int) : Bool := !(decide (n < a) || decide (n > b))
theorem t41 (a b n : Int) : Fn Q 41 [.fo (.int n), .fo (.ptr [.int a]), .fo (.ptr [.int b])] (.one (.fx (.bool (!inB a b n)))) := by
  refine fn_intro Go.Proofs.Try.func41 rfl (by kernel_rfl) mix (k41 0) (Nat.le_of_ble_eq_true (by kernel_rfl)) ?_
  refine Abs.walk ?_
  unfold c41
  simp -implicitDefEqProofs only [go_sem, simprocAttr]
  refine brL (fun h1 => ?_) (fun h1 => ?_)
  · simp -implicitDefEqProofs only [go_sem, simprocAttr, h1]
    exact ret_eq (by simp_all [inB] <;> omega)
  · simp -implicitDefEqProofs only [go_sem, simprocAttr, h1]
    exact ret_eq (by simp_all [inB] <;> omega)
theorem t47 (a b n : Int) : Fn Q 47 [.fo (.int n), .fo (.ptr [.int a]), .fo (.ptr [.int b])] (.one (.fx (.bool (!inB a b n)))) := by
  refine fn_intro Go.Proofs.Try.func47 rfl (by kernel_rfl) mix (k47 0) (Nat.le_of_ble_eq_true (by kernel_rfl)) ?_
  refine Abs.walk ?_
  unfold c47
  simp -implicitDefEqProofs only [go_sem, simprocAttr]
  refine brL (fun h1 => ?_) (fun h1 => ?_)
  · simp -implicitDefEqProofs only [go_sem, simprocAttr, h1]
    exact ret_eq (by simp_all [inB] <;> omega)
  · simp -implicitDefEqProofs only [go_sem, simprocAttr, h1]
    exact ret_eq (by simp_all [inB] <;> omega)
theorem t19 (a b : Int) (s : FV) (l : List Int) (hs : lsOf s = some (ints l)) (hl : l.length ≤ 9223372036854775807) : Fn Q 19 [.fo (.int a), .fo (.int b), .fo s] (.one (.fx (.bool (l.all (inB a b))))) := by
  refine fn_intro Go.Proofs.Try.func19 rfl (by kernel_rfl) mix (k19 0) (Nat.le_of_ble_eq_true (by kernel_rfl)) ?_
  refine Abs.walk ?_
  unfold c19
  simp -implicitDefEqProofs only [go_sem, simprocAttr]
  refine callC t40 true (fun x => !inB a b x.toI) (by rfl) hs (ints_elem l) (by rw [ints_length]; exact hl) en41 (by rfl) ?_ ?_
  · intro x hx
    obtain ⟨n, _, rfl⟩ := List.mem_map.1 hx
    exact t41 a b n
  · simp -implicitDefEqProofs only [go_sem, simprocAttr, ints_any l (fun n => !inB a b n)]
    exact ret_eq (by simp [List.all_eq_not_any_not])
theorem t27 (a b : Int) (s : FV) (l : List Int) (hs : lsOf s = some (ints l)) (hl : l.length ≤ 9223372036854775807) : Fn Q 27 [.fo (.int a), .fo (.int b), .fo s] (.one (.fx (.bool (l.all (inB a b))))) := by
  refine fn_intro Go.Proofs.Try.func27 rfl (by kernel_rfl) mix (k27 0) (Nat.le_of_ble_eq_true (by kernel_rfl)) ?_
  refine Abs.walk ?_
  unfold c27
  simp -implicitDefEqProofs only [go_sem, simprocAttr]
  refine callC t40 true (fun x => !inB a b x.toI) (by rfl) hs (ints_elem l) (by rw [ints_length]; exact hl) en47 (by rfl) ?_ ?_
  · intro x hx
    obtain ⟨n, _, rfl⟩ := List.mem_map.1 hx
    exact t47 a b n
  · simp -implicitDefEqProofs only [go_sem, simprocAttr, ints_any l (fun n => !inB a b n)]
    exact ret_eq (by simp [List.all_eq_not_any_not])
def span (a b : Int) : FV := .agg [.int a, .int b]
theorem t6 (a b : Int) : Fn Q 6 [.fo (.int a), .fo (.int b)] (.one (.fx (span a b))) := by
  refine fn_intro Go.Proofs.Try.func6 rfl (by kernel_rfl) mix (k6 0) (Nat.le_of_ble_eq_true (by kernel_rfl)) ?_
  refine Abs.walk ?_
  unfold c6
  simp -implicitDefEqProofs only [go_sem, simprocAttr]
  exact ret_fv
def okSpan (a b lo hi : Int) : Bool := inB a b lo && inB a b hi && decide (lo ≤ hi)
theorem t45 (a b lo hi : Int) : Fn Q 45 [.fo (.int a), .fo (.int b), .fo (span lo hi)] (.one (.fx (.bool (okSpan a b lo hi)))) := by
  refine fn_intro Go.Proofs.Try.func45 rfl (by kernel_rfl) mix (k45 0) (Nat.le_of_ble_eq_true (by kernel_rfl)) ?_
  refine Abs.walk ?_
  unfold c45
  simp -implicitDefEqProofs only [go_sem, simprocAttr, span]
  refine callF [] true [.fo (.int a), .fo (.int b), .fo (.list false [.int lo, .int hi])] [] (t27 a b _ [lo, hi] rfl (by simp)) ⟨rfl, rfl, rfl, trivial⟩ rfl (.inr rfl) ?_
  simp -implicitDefEqProofs only [go_sem, simprocAttr]
  refine brL (fun h1 => ?_) (fun h1 => ?_)
  · simp -implicitDefEqProofs only [go_sem, simprocAttr, h1]
    exact ret_eq (by simp_all [okSpan])
  · simp -implicitDefEqProofs only [go_sem, simprocAttr, h1]
    exact ret_eq (by simp_all [okSpan])
theorem t53 (a b lo hi : Int) : Fn Q 53 [.fo (.int a), .fo (.int b), .fo (span lo hi)] (.one (.fx (.bool (okSpan a b lo hi)))) := by
  refine fn_intro Go.Proofs.Try.func53 rfl (by kernel_rfl) mix (k53 0) (Nat.le_of_ble_eq_true (by kernel_rfl)) ?_
  refine Abs.walk ?_
  unfold c53
  simp -implicitDefEqProofs only [go_sem, simprocAttr, span]
  refine callF [] true [.fo (.int a), .fo (.int b), .fo (.list false [.int lo, .int hi])] [] (t19 a b _ [lo, hi] rfl (by simp)) ⟨rfl, rfl, rfl, trivial⟩ rfl (.inr rfl) ?_
  simp -implicitDefEqProofs only [go_sem, simprocAttr]
  refine brL (fun h1 => ?_) (fun h1 => ?_)
  · simp -implicitDefEqProofs only [go_sem, simprocAttr, h1]
    exact ret_eq (by simp_all [okSpan])
  · simp -implicitDefEqProofs only [go_sem, simprocAttr, h1]
    exact ret_eq (by simp_all [okSpan])
end S12

namespace S12
open Go Abs
def slip (lo hi : Int) : FV := .agg [.int 3, .int 4, .int lo, .int hi, .int 1]
def works (lo hi : Int) : FV := .agg [.list false [slip lo hi], .int 3, .int 4]
theorem t17 (lo hi : Int) : Fn Q 17 [.fo (.int 3), .fo (.int 4), .fo (span lo hi), .fo (.list false [span 3 4])] (.one (.fx (works lo hi))) := by
  refine fn_intro Go.Proofs.Try.func17 rfl (by kernel_rfl) mix (k17 0) (Nat.le_of_ble_eq_true (by kernel_rfl)) ?_
  refine Abs.walk ?_
  unfold c17
  simp -implicitDefEqProofs only [go_sem, simprocAttr, span]
  refine lp (n := 2) (lpStep ?_)
  simp -implicitDefEqProofs only [go_sem, simprocAttr]
  refine W_opsD _ _ _ (Vs [[], [], [], [], [], [], [], [], [], [], [30]]) ?_ ?_
  · decide
  simp -implicitDefEqProofs only [go_sem, simprocAttr]
  refine app_nil idx_25 (by decide) (by rfl) (by simp [FV.cells]) (by simp -implicitDefEqProofs only [go_sem, simprocAttr]) (by simp -implicitDefEqProofs only [go_sem, simprocAttr]) (by simp [maxLen]) ?_
  simp -implicitDefEqProofs only [go_sem, simprocAttr]
  refine lpStep ?_
  simp -implicitDefEqProofs only [go_sem, simprocAttr, List.isEmpty]
  exact ret_fx (fun _ => true) (by rfl)
theorem t8 (lo hi : Int) : Fn Q 8 [.fo (works lo hi)] (.one (.fx (works lo hi))) := by
  refine fn_intro Go.Proofs.Try.func8 rfl (by kernel_rfl) mix (k8 0) (Nat.le_of_ble_eq_true (by kernel_rfl)) ?_
  refine Abs.walk ?_
  unfold c8
  simp -implicitDefEqProofs only [go_sem, simprocAttr, works, slip]
  refine app_gl (by rfl) idx_25 (by rfl) (by simp [FV.cells]) (by simp -implicitDefEqProofs only [go_sem, simprocAttr]) (by simp -implicitDefEqProofs only [go_sem, simprocAttr]) (by simp [maxLen]) (by simp) ?_
  simp -implicitDefEqProofs only [go_sem, simprocAttr]
  exact ret_fx (fun _ => true) (by rfl)
theorem t26 (f : Bool) (n : Int) : Fn Q 26 [.fo (.list f [.int n])] (.one (.fx (.list false [.int n]))) := by
  refine fn_intro Go.Proofs.Try.func26 rfl (by kernel_rfl) mix (k26 0) (Nat.le_of_ble_eq_true (by kernel_rfl)) ?_
  refine Abs.walk ?_
  unfold c26
  simp -implicitDefEqProofs only [go_sem, simprocAttr]
  refine app_gl (by rfl) idx_29 (by rfl) (by simp [FV.cells]) (by simp -implicitDefEqProofs only [go_sem, simprocAttr]) (by simp -implicitDefEqProofs only [go_sem, simprocAttr]) (by simp [maxLen]) (by simp) ?_
  simp -implicitDefEqProofs only [go_sem, simprocAttr]
  exact ret_fx (fun _ => true) (by rfl)
def entF (x : Int × Int) : FV := .agg [.int x.1, .int 0, .int x.2]
def recF (f : Bool) (lo hi : Int) : FV := .agg [.list f [span lo hi]]
/-- A ledger of one good and one kind. -/
structure Book (b : FV) (st lo hi : Int) (es ms : List (Int × Int)) : Prop where
  el : es.length ≤ 100
  ml : ms.length ≤ 100
  eq : ∃ f1 f2 f3 se sm, b = .agg [.list f1 [.int st], se, .list f2 [recF f3 lo hi], sm] ∧ lsOf se = some (es.map entF) ∧ lsOf sm = some (ms.map entF)
def bookF (st lo hi : Int) (es ms : List (Int × Int)) : FV := .agg [.list false [.int st], .list false (es.map entF), .list false [recF false lo hi], .list false (ms.map entF)]
theorem t11 {b : FV} {st lo hi : Int} {es ms : List (Int × Int)} (hb : Book b st lo hi es ms) : Fn Q 11 [.fo b] (.one (.fx (bookF st lo hi es ms))) := by
  obtain ⟨el, ml, f1, f2, f3, se, sm, rfl, he, hm⟩ := hb
  have c3 : ∀ a, (entF a).cells.length = 3 := fun _ => rfl
  rcases ls_cases he with ⟨f4, rfl⟩ | ⟨rfl, he0⟩ <;> rcases ls_cases hm with ⟨f5, rfl⟩ | ⟨rfl, hm0⟩
  all_goals
    refine fn_intro Go.Proofs.Try.func11 rfl (by kernel_rfl) mix (k11 0) (Nat.le_of_ble_eq_true (by kernel_rfl)) ?_
    refine Abs.walk ?_
    unfold c11
    simp -implicitDefEqProofs only [go_sem, simprocAttr, recF, span]
    refine W_opsD _ _ _ (Vs [[], [], [], [8], [], [], [8], [12], [], [], [12], [], [3], []]) ?_ ?_
    · decide
    simp -implicitDefEqProofs only [go_sem, simprocAttr]
    refine callD [] false [.fo (.list f1 [.int st])] [] (t26 f1 st) ⟨rfl, trivial⟩ rfl (.inl rfl) ?_
    simp -implicitDefEqProofs only [go_sem, simprocAttr]
    first
    | refine app_none (by rfl) idx_30 ?_
    | refine app_gl (by rfl) idx_30 (by rfl) (map_cells _ c3) (by simp -implicitDefEqProofs only [go_sem, simprocAttr]) (by simp [byt_92]; omega) (by simp [maxLen]; omega) (by simp) ?_
    simp -implicitDefEqProofs only [go_sem, simprocAttr]
    first
    | refine app_none (by rfl) idx_32 ?_
    | refine app_gl (by rfl) idx_32 (by rfl) (map_cells _ c3) (by simp -implicitDefEqProofs only [go_sem, simprocAttr]) (by simp [byt_69]; omega) (by simp [maxLen]; omega) (by simp) ?_
    simp -implicitDefEqProofs only [go_sem, simprocAttr]
    refine lp (n := 2) (lpStep ?_)
    simp -implicitDefEqProofs only [go_sem, simprocAttr]
    refine W_opsD _ _ _ (Vs [[], [], [26], [], [], [], [], [], [], [26], [], [26, 35], [], []]) ?_ ?_
    · decide
    simp -implicitDefEqProofs only [go_sem, simprocAttr]
    refine app_gl (by rfl) idx_40 (by rfl) (by simp [FV.cells]) (by simp -implicitDefEqProofs only [go_sem, simprocAttr]) (by simp -implicitDefEqProofs only [go_sem, simprocAttr]) (by simp [maxLen]) (by simp) ?_
    simp -implicitDefEqProofs only [go_sem, simprocAttr]
    refine app_nil idx_31 (by decide) (by rfl) (by simp [FV.cells]) (by simp -implicitDefEqProofs only [go_sem, simprocAttr]) (by simp -implicitDefEqProofs only [go_sem, simprocAttr]) (by simp [maxLen]) ?_
    simp -implicitDefEqProofs only [go_sem, simprocAttr]
    refine lpStep ?_
    simp -implicitDefEqProofs only [go_sem, simprocAttr, List.isEmpty]
    first
    | exact ret_fx (fun _ => true) (by rfl)
    | exact ret_fx (fun _ => true) (by simp only [bookF, he0]; rfl)
    | exact ret_fx (fun _ => true) (by simp only [bookF, hm0]; rfl)
    | exact ret_fx (fun _ => true) (by simp only [bookF, he0, hm0]; rfl)
end S12

