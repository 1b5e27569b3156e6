/- A part of the proof: G12r. -/
import Derived.Test.YtjelfogbefnmaaaG12p
import Derived.Test.YtjelfogbefnmaaaAbsY
set_option linter.unusedVariables false
set_option linter.unusedSimpArgs false
set_option maxRecDepth 20000
namespace S12
open Go Abs
def wg (n a b : Int) : FV := .agg [.int 0, .int n, .int a, .int b]
structure VW (n a b : Int) : Prop where
  n0 : 1 ≤ n
  n1 : n ≤ 200
  a0 : 0 ≤ a
  ab : a ≤ b
  b1 : b ≤ 5000
theorem t52 {lo hi n a b : Int} (w : VW n a b) : Fn Q 52 [.fo (wg n a b), .fo (.ptr (works lo hi).cells)] (.one (.fx (.bool false))) := by
  obtain ⟨n0, n1, a0, ab, b1⟩ := w
  have i1 : inB 1 200 n = true := inB_ok n0 n1
  have i0 : inB 0 0 0 = true := rfl
  have i2 : okSpan 0 20000 a b = true := by simp [okSpan, inB_ok a0 (show a ≤ 20000 by omega), inB_ok (show 0 ≤ b by omega) (show b ≤ 20000 by omega), ab]
  refine fn_intro Go.Proofs.Try.func52 rfl (by kernel_rfl) mix (k52 0) (Nat.le_of_ble_eq_true (by kernel_rfl)) ?_
  refine Abs.walk ?_
  unfold c52
  simp -implicitDefEqProofs only [go_sem, simprocAttr, wg, works]
  refine callF [] true [.fo (.int 0), .fo (.int 0), .fo (.list false [.int 0])] [] (t19 _ _ _ [0] rfl (by simp)) ⟨rfl, rfl, rfl, trivial⟩ rfl (.inr rfl) ?_
  simp -implicitDefEqProofs only [go_sem, simprocAttr, i0]
  refine callF [] true [.fo (.int 1), .fo (.int 200), .fo (.list false [.int n])] [] (t19 _ _ _ [n] rfl (by simp)) ⟨rfl, rfl, rfl, trivial⟩ rfl (.inr rfl) ?_
  simp -implicitDefEqProofs only [go_sem, simprocAttr, i1]
  refine callF [] false [.fo (.int 0), .fo (.int 20000), .fo (span a b)] [] (t53 _ _ _ _) ⟨rfl, rfl, rfl, trivial⟩ rfl (.inl rfl) ?_
  simp -implicitDefEqProofs only [go_sem, simprocAttr, i2]
  exact ret_fv
def wgs (lo hi n a b : Int) (f : Bool) : FV := .agg [.list false [slip lo hi], .int 3, .int 4, .list f [wg n a b], .int 0]
theorem t31 {lo hi n a b : Int} {f : Bool} (v : VS lo hi) (w : VW n a b) : Fn Q 31 [.fo (works lo hi), .fo (.list f [wg n a b])] (.tup [.fx (wgs lo hi n a b f), .fx (.int 0)]) := by
  refine fn_intro Go.Proofs.Try.func31 rfl (by kernel_rfl) mix (k31 0) (Nat.le_of_ble_eq_true (by kernel_rfl)) ?_
  refine Abs.walk ?_
  unfold c31
  simp -implicitDefEqProofs only [go_sem, simprocAttr, works]
  refine callF [] false [.fo (works lo hi)] [] (t35 v) ⟨rfl, trivial⟩ rfl (.inl rfl) ?_
  simp -implicitDefEqProofs only [go_sem, simprocAttr, works]
  refine callC t54 true (fun _ => false) (by rfl) (xs := [wg n a b]) rfl (by simp [Elem, wg, FV.cells, partF]) (by simp) en52 (by rfl) ?_ ?_
  · intro x hx
    simp at hx; subst hx
    exact t52 w
  simp -implicitDefEqProofs only [go_sem, simprocAttr, any_false]
  refine ret_tup (fun _ => true) ?_ (by simp [ownNames])
  simp -implicitDefEqProofs only [go_sem, simprocAttr, wgs]
/-- The ounces that a weighing tells. -/
def ozL (lo n a : Int) : Int := if (a + n - 1).tdiv n > lo then (a + n - 1).tdiv n else lo
def ozH (hi n b : Int) : Int := if b.tdiv n < hi then b.tdiv n else hi
def ozO (lo hi n a b : Int) : Bool := decide (ozL lo n a ≤ ozH hi n b)
def ozR (lo hi n a b : Int) : FV := if ozO lo hi n a b then .list false [span (ozL lo n a) (ozH hi n b)] else .nil
theorem tdiv_bd {x n : Int} (x0 : 0 ≤ x) (n0 : 1 ≤ n) : 0 ≤ x.tdiv n ∧ x.tdiv n ≤ x := by
  rw [Int.tdiv_eq_ediv_of_nonneg x0]
  exact ⟨Int.ediv_nonneg x0 (by omega), Int.ediv_le_self _ x0⟩
theorem t32 {lo hi n a b : Int} {f : Bool} (v : VS lo hi) (w : VW n a b) : Fn Q 32 [.fo (wgs lo hi n a b f)] (.tup [.fx (ozR lo hi n a b), .fx (.bool (ozO lo hi n a b))]) := by
  obtain ⟨n0, n1, a0, ab, b1⟩ := w
  have q1 := tdiv_bd (show 0 ≤ a + n - 1 by omega) n0
  have q2 := tdiv_bd (show 0 ≤ b by omega) n0
  have w1 : IntKind.i64.wrap (a + n) = a + n := wr _ (by omega) (by omega)
  have w2 : IntKind.i64.wrap (a + n - 1) = a + n - 1 := wr _ (by omega) (by omega)
  have w3 : IntKind.i64.wrap ((a + n - 1).tdiv n) = (a + n - 1).tdiv n := wr _ (by omega) (by omega)
  have w4 : IntKind.i64.wrap (b.tdiv n) = b.tdiv n := wr _ (by omega) (by omega)
  have nz : ¬ n = 0 := by omega
  refine fn_intro Go.Proofs.Try.func32 rfl (by kernel_rfl) mix (k32 0) (Nat.le_of_ble_eq_true (by kernel_rfl)) ?_
  refine Abs.walk ?_
  unfold c32
  simp -implicitDefEqProofs only [go_sem, simprocAttr, wgs]
  refine lp (n := 2) (lpStep ?_)
  simp -implicitDefEqProofs only [go_sem, simprocAttr, slip]
  refine app_gl (by simp -implicitDefEqProofs only [go_sem, simprocAttr]; rfl) idx_40 (by simp -implicitDefEqProofs only [go_sem, simprocAttr]; rfl) (by simp [FV.cells]) (by simp -implicitDefEqProofs only [go_sem, simprocAttr]) (by simp -implicitDefEqProofs only [go_sem, simprocAttr]) (by simp [maxLen]) (by simp) ?_
  simp -implicitDefEqProofs only [go_sem, simprocAttr]
  refine lpStep ?_
  simp -implicitDefEqProofs only [go_sem, simprocAttr]
  refine lp (n := 2) (lpStep ?_)
  simp -implicitDefEqProofs only [go_sem, simprocAttr, wg, List.isEmpty, w1, w2, w3, w4, nz, max2V, min2V]
  refine sto_elem (by rfl) (by rfl) (by rfl) (by simp -implicitDefEqProofs only [go_sem, simprocAttr]; rfl) (by rfl) (by decide) ?_
  simp -implicitDefEqProofs only [go_sem, simprocAttr, FV.withCells, w4, nz, min2V]
  refine sto_elem (by rfl) (by rfl) (by rfl) (by simp -implicitDefEqProofs only [go_sem, simprocAttr]; rfl) (by rfl) (by decide) ?_
  cases e : decide (ozL lo n a ≤ ozH hi n b)
  · have e2 : (if (a + n - 1).tdiv n > lo then (a + n - 1).tdiv n else lo) > (if b.tdiv n < hi then b.tdiv n else hi) := by
      have := of_decide_eq_false e
      simp only [ozL, ozH] at this
      omega
    simp -implicitDefEqProofs only [go_sem, simprocAttr, FV.withCells, e2]
    refine ret_tup (fun _ => true) ?_ (by simp [ownNames])
    simp -implicitDefEqProofs only [go_sem, simprocAttr, ozR, ozO, e]
  · have e2 : ¬ (if (a + n - 1).tdiv n > lo then (a + n - 1).tdiv n else lo) > (if b.tdiv n < hi then b.tdiv n else hi) := by
      have := of_decide_eq_true e
      simp only [ozL, ozH] at this
      omega
    simp -implicitDefEqProofs only [go_sem, simprocAttr, FV.withCells, e2]
    refine lpStep ?_
    simp -implicitDefEqProofs only [go_sem, simprocAttr]
    refine ret_tup (fun _ => true) ?_ (by simp [ownNames])
    have e3 : ozR lo hi n a b = .list false [span (ozL lo n a) (ozH hi n b)] := by simp [ozR, ozO, e]
    simp -implicitDefEqProofs only [go_sem, simprocAttr, e3, ozO, e, span]
    rfl
end S12

