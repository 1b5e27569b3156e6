/- A part of the proof: G12e, G12f. -/
import Derived.Test.YtjelfogbefnmaaaG12d
set_option linter.unusedVariables false
set_option linter.unusedSimpArgs false
set_option maxRecDepth 20000
namespace S12
open Go Abs
theorem inB_ok {a b n : Int} (h1 : a ≤ n) (h2 : n ≤ b) : inB a b n = true := by
  simp only [inB, Bool.not_eq_true', Bool.or_eq_false_iff, decide_eq_false_iff_not]
  omega
theorem t59 {d a : Int} (h1 : 0 ≤ d) (h2 : d ≤ 365) (h3 : -1000 ≤ a) (h4 : a ≤ 1000) (h5 : a ≠ 0) : Fn Q 59 [.fo (entF (d, a)), .fo (.ptr [.int 1])] (.one (.fx (.bool false))) := by
  have i1 := inB_ok h1 h2
  have i2 : inB 0 0 0 = true := rfl
  have i3 := inB_ok h3 h4
  have i4 : (a == 0) = false := by simpa using h5
  refine fn_intro Go.Proofs.Try.func59 rfl (by kernel_rfl) mix (k59 0) (Nat.le_of_ble_eq_true (by kernel_rfl)) ?_
  refine Abs.walk ?_
  unfold c59
  simp -implicitDefEqProofs only [go_sem, simprocAttr, entF]
  refine callF [] true [.fo (.int 0), .fo (.int 365), .fo (.list false [.int d])] [] (t27 _ _ _ [d] rfl (by simp)) ⟨rfl, rfl, rfl, trivial⟩ rfl (.inr rfl) ?_
  simp -implicitDefEqProofs only [go_sem, simprocAttr, i1]
  refine callF [] true [.fo (.int 0), .fo (.int 0), .fo (.list false [.int 0])] [] (t27 _ _ _ [0] rfl (by simp)) ⟨rfl, rfl, rfl, trivial⟩ rfl (.inr rfl) ?_
  simp -implicitDefEqProofs only [go_sem, simprocAttr, i2]
  refine callF [] true [.fo (.int (-1000)), .fo (.int 1000), .fo (.list false [.int a])] [] (t27 _ _ _ [a] rfl (by simp)) ⟨rfl, rfl, rfl, trivial⟩ rfl (.inr rfl) ?_
  simp -implicitDefEqProofs only [go_sem, simprocAttr, i3, i4]
  exact ret_fv
theorem t60 {lo hi : Int} (h1 : 0 ≤ lo) (h2 : lo ≤ hi) (h3 : hi ≤ 50) (h4 : hi - lo < 8) : Fn Q 60 [.fo (span lo hi)] (.one (.fx (.bool false))) := by
  have i1 : okSpan 0 50 lo hi = true := by simp [okSpan, inB_ok h1 (show lo ≤ 50 by omega), inB_ok (show 0 ≤ hi by omega) h3, h2]
  have i2 : IntKind.i64.wrap (hi - lo) = hi - lo := wr _ (by omega) (by omega)
  have i3 : ¬ (hi - lo ≥ 8) := by omega
  refine fn_intro Go.Proofs.Try.func60 rfl (by kernel_rfl) mix (k60 0) (Nat.le_of_ble_eq_true (by kernel_rfl)) ?_
  refine Abs.walk ?_
  unfold c60
  simp -implicitDefEqProofs only [go_sem, simprocAttr, span]
  refine callF [] false [.fo (.int 0), .fo (.int 50), .fo (span lo hi)] [] (t45 0 50 lo hi) ⟨rfl, rfl, rfl, trivial⟩ rfl (.inl rfl) ?_
  simp -implicitDefEqProofs only [go_sem, simprocAttr, i1, i2, i3]
  exact ret_fv
theorem t61 {f : Bool} {lo hi : Int} (h1 : 0 ≤ lo) (h2 : lo ≤ hi) (h3 : hi ≤ 50) (h4 : hi - lo < 8) : Fn Q 61 [.fo (recF f lo hi), .fo (.ptr [.int 1]), .fo (.ptr [.clos 60 []])] (.one (.fx (.bool false))) := by
  refine fn_intro Go.Proofs.Try.func61 rfl (by kernel_rfl) mix (k61 0) (Nat.le_of_ble_eq_true (by kernel_rfl)) ?_
  refine Abs.walk ?_
  unfold c61
  simp -implicitDefEqProofs only [go_sem, simprocAttr, recF]
  refine callC t43 true (fun _ => false) (by rfl) (xs := [span lo hi]) rfl (by simp [Elem, span, FV.cells, partF]) (by simp) en60 (by rfl) ?_ ?_
  · intro x hx
    simp at hx; subst hx
    exact t60 h1 h2 h3 h4
  · simp -implicitDefEqProofs only [go_sem, simprocAttr, List.any]
    exact ret_fv
theorem t62 {d n : Int} {f1 f2 f3 : Bool} {st lo hi : Int} {se sm : FV} (h1 : 0 ≤ d) (h2 : d ≤ 365) (h3 : 1 ≤ n) (h4 : n ≤ 100) :
    Fn Q 62 [.fo (entF (d, n)), .fo (.ptr [.list f1 [.int st], se, .list f2 [recF f3 lo hi], sm])] (.one (.fx (.bool false))) := by
  have i1 := inB_ok h1 h2
  have i2 : inB 0 0 0 = true := rfl
  have i3 := inB_ok h3 h4
  refine fn_intro Go.Proofs.Try.func62 rfl (by kernel_rfl) mix (k62 0) (Nat.le_of_ble_eq_true (by kernel_rfl)) ?_
  refine Abs.walk ?_
  unfold c62
  simp -implicitDefEqProofs only [go_sem, simprocAttr, entF]
  refine callF [] true [.fo (.int 0), .fo (.int 365), .fo (.list false [.int d])] [] (t27 _ _ _ [d] rfl (by simp)) ⟨rfl, rfl, rfl, trivial⟩ rfl (.inr rfl) ?_
  simp -implicitDefEqProofs only [go_sem, simprocAttr, i1]
  refine callF [] true [.fo (.int 0), .fo (.int 0), .fo (.list false [.int 0])] [] (t27 _ _ _ [0] rfl (by simp)) ⟨rfl, rfl, rfl, trivial⟩ rfl (.inr rfl) ?_
  simp -implicitDefEqProofs only [go_sem, simprocAttr, i2]
  refine callF [] true [.fo (.int 1), .fo (.int 100), .fo (.list false [.int n])] [] (t27 _ _ _ [n] rfl (by simp)) ⟨rfl, rfl, rfl, trivial⟩ rfl (.inr rfl) ?_
  simp -implicitDefEqProofs only [go_sem, simprocAttr, i3]
  exact ret_fv
end S12

namespace S12
open Go Abs
theorem any_false (xs : List FV) : (xs.any fun _ => false) = false := by simp
/-- A valid ledger of one good and one kind. -/
structure VB (b : FV) (st lo hi : Int) (es ms : List (Int × Int)) : Prop where
  bk : Book b st lo hi es ms
  s0 : 0 ≤ st
  s1 : st ≤ 10000
  el : es.length ≤ 12
  ml : ms.length ≤ 8
  lo0 : 0 ≤ lo
  lh : lo ≤ hi
  hi1 : hi ≤ 50
  w : hi - lo < 8
  es1 : ∀ e ∈ es, 0 ≤ e.1 ∧ e.1 ≤ 365 ∧ -1000 ≤ e.2 ∧ e.2 ≤ 1000 ∧ e.2 ≠ 0
  ms1 : ∀ e ∈ ms, 0 ≤ e.1 ∧ e.1 ≤ 365 ∧ 1 ≤ e.2 ∧ e.2 ≤ 100
theorem t42 {b : FV} {st lo hi : Int} {es ms : List (Int × Int)} (v : VB b st lo hi es ms) : Fn Q 42 [.fo b] (.one (.fx (.int 0))) := by
  obtain ⟨⟨_, _, f1, f2, f3, se, sm, rfl, he, hm⟩, s0, s1, el, ml, lo0, lh, hi1, w, es1, ms1⟩ := v
  have c3 : ∀ a, Elem true 3 (entF a) := fun _ => ⟨rfl, rfl⟩
  have o1 : (LV.fv se).one = true := by rcases ls_cases he with ⟨f4, rfl⟩ | ⟨rfl, he0⟩ <;> rfl
  have o2 : (LV.fv sm).one = true := by rcases ls_cases hm with ⟨f4, rfl⟩ | ⟨rfl, he0⟩ <;> rfl
  have i1 := inB_ok s0 s1
  have i2 : inB 1 4 1 = true := rfl
  have l1 : ¬ (((es.map entF).length : Nat) : Int) > 12 := by simp; omega
  have l2 : ¬ (((ms.map entF).length : Nat) : Int) > 8 := by simp; omega
  refine fn_intro Go.Proofs.Try.func42 rfl (by kernel_rfl) mix (k42 0) (Nat.le_of_ble_eq_true (by kernel_rfl)) ?_
  refine Abs.walk ?_
  unfold c42
  simp -implicitDefEqProofs only [go_sem, simprocAttr, recF, span, o1, o2]
  refine callF [] true [.fo (.int 1), .fo (.int 4), .fo (.list false [.int 1])] [] (t27 _ _ _ [1] rfl (by simp)) ⟨rfl, rfl, rfl, trivial⟩ rfl (.inr rfl) ?_
  simp -implicitDefEqProofs only [go_sem, simprocAttr, i2, o1, o2]
  refine callF [] true [.fo (.int 0), .fo (.int 10000), .fo (.list f1 [.int st])] [] (t27 _ _ _ [st] rfl (by simp)) ⟨rfl, rfl, rfl, trivial⟩ rfl (.inr rfl) ?_
  simp -implicitDefEqProofs only [go_sem, simprocAttr, i1, o1, o2, lenV_ls he, lenV_ls hm, l1, l2]
  refine callC t63 true (fun _ => false) (by rfl) he (map_elem _ c3) (by simp; omega) en59 (by rfl) ?_ ?_
  · intro x hx
    obtain ⟨a, ha, rfl⟩ := List.mem_map.1 hx
    obtain ⟨q1, q2, q3, q4, q5⟩ := es1 a ha
    exact t59 q1 q2 q3 q4 q5
  simp -implicitDefEqProofs only [go_sem, simprocAttr, any_false]
  refine callC t64 true (fun _ => false) (by rfl) (xs := [recF f3 lo hi]) rfl (by simp [Elem, recF, FV.cells, partF]) (by simp) en61 (by rfl) ?_ ?_
  · intro x hx
    simp at hx; subst hx
    exact t61 lo0 lh hi1 w
  simp -implicitDefEqProofs only [go_sem, simprocAttr, any_false]
  refine callC t65 true (fun _ => false) (by rfl) hm (map_elem _ c3) (by simp; omega) en62 (by rfl) ?_ ?_
  · intro x hx
    obtain ⟨a, ha, rfl⟩ := List.mem_map.1 hx
    obtain ⟨q1, q2, q3, q4⟩ := ms1 a ha
    exact t62 q1 q2 q3 q4
  simp -implicitDefEqProofs only [go_sem, simprocAttr, any_false]
  exact ret_fv
theorem t23n {b : FV} {st lo hi : Int} {es ms : List (Int × Int)} (v : VB b st lo hi es ms) : Fn Q 23 [.fo b, .fo .nil] (.tup [.fx b, .fx (.int 0)]) := by
  have c := t42 v
  obtain ⟨⟨_, _, f1, f2, f3, se, sm, rfl, he, hm⟩, s0, s1, el, ml, lo0, lh, hi1, w, es1, ms1⟩ := v
  have o1 : (LV.fv se).one = true := by rcases ls_cases he with ⟨f4, rfl⟩ | ⟨rfl, he0⟩ <;> rfl
  have o2 : (LV.fv sm).one = true := by rcases ls_cases hm with ⟨f4, rfl⟩ | ⟨rfl, he0⟩ <;> rfl
  refine fn_intro Go.Proofs.Try.func23 rfl (by kernel_rfl) mix (k23 0) (Nat.le_of_ble_eq_true (by kernel_rfl)) ?_
  refine Abs.walk ?_
  unfold c23
  simp -implicitDefEqProofs only [go_sem, simprocAttr, o1, o2]
  refine callF [] false [.fo (.agg [.list f1 [.int st], se, .list f2 [recF f3 lo hi], sm])] [] c ⟨rfl, trivial⟩ rfl (.inl rfl) ?_
  simp -implicitDefEqProofs only [go_sem, simprocAttr, o1, o2]
  refine lp (n := 1) (lpStep ?_)
  simp -implicitDefEqProofs only [go_sem, simprocAttr, o1, o2]
  refine ret_tup (fun _ => true) ?_ (by simp [ownNames])
  simp -implicitDefEqProofs only [go_sem, simprocAttr]
end S12

