/- A part of the proof: G12h. -/
import Derived.Test.YtjelfogbefnmaaaG12g
import Derived.Test.YtjelfogbefnmaaaAbsY
set_option linter.unusedVariables false
set_option linter.unusedSimpArgs false
set_option maxRecDepth 20000
namespace S12
open Go Abs
theorem t24 {b : FV} {st lo hi : Int} {es ms : List (Int × Int)} (v : VB b st lo hi es ms) : Fn Q 24 [.fo b, .fo (.int 0)] (.one (.fx (acc (st + upto 365 es) (upto 365 ms) lo hi))) := by
  have c := t46 v 365
  obtain ⟨⟨_, _, f1, f2, f3, se, sm, rfl, he, hm⟩, s0, s1, el, ml, lo0, lh, hi1, w, es1, ms1⟩ := v
  have o1 : (LV.fv se).one = true := by rcases ls_cases he with ⟨f4, rfl⟩ | ⟨rfl, he0⟩ <;> rfl
  have o2 : (LV.fv sm).one = true := by rcases ls_cases hm with ⟨f4, rfl⟩ | ⟨rfl, he0⟩ <;> rfl
  refine fn_intro Go.Proofs.Try.func24 rfl (by kernel_rfl) mix (k24 0) (Nat.le_of_ble_eq_true (by kernel_rfl)) ?_
  refine Abs.walk ?_
  unfold c24
  simp -implicitDefEqProofs only [go_sem, simprocAttr, o1, o2]
  refine callF [] false [.fo (.agg [.list f1 [.int st], se, .list f2 [recF f3 lo hi], sm]), .fo (.int 0), .fo (.int 365)] [] c ⟨rfl, rfl, rfl, trivial⟩ rfl (.inl rfl) ?_
  simp -implicitDefEqProofs only [go_sem, simprocAttr, acc]
  exact ret_fv
theorem t25 {s n lo hi : Int} (s0 : -100000 ≤ s) (s1 : s ≤ 100000) (n0 : 0 ≤ n) (n1 : n ≤ 1000) (l0 : 0 ≤ lo) (l1 : lo ≤ hi) (l2 : hi ≤ 50) :
    Fn Q 25 [.fo (acc s n lo hi)] (.one (.fx (span (s - n * hi) (s - n * lo)))) := by
  have p1 := Int.mul_nonneg n0 (show 0 ≤ hi by omega)
  have p2 := Int.mul_nonneg n0 l0
  have p3 : n * hi ≤ 1000 * 50 := Int.mul_le_mul n1 l2 (by omega) (by omega)
  have p4 : n * lo ≤ 1000 * 50 := Int.mul_le_mul n1 (by omega) l0 (by omega)
  have w1 : IntKind.i64.wrap (n * hi) = n * hi := wr _ (by omega) (by omega)
  have w2 : IntKind.i64.wrap (n * lo) = n * lo := wr _ (by omega) (by omega)
  have w3 : IntKind.i64.wrap (s - n * hi) = s - n * hi := wr _ (by omega) (by omega)
  have w4 : IntKind.i64.wrap (s - n * lo) = s - n * lo := wr _ (by omega) (by omega)
  refine fn_intro Go.Proofs.Try.func25 rfl (by kernel_rfl) mix (k25 0) (Nat.le_of_ble_eq_true (by kernel_rfl)) ?_
  refine Abs.walk ?_
  unfold c25
  simp -implicitDefEqProofs only [go_sem, simprocAttr, acc]
  refine lp (n := 4) (lpStep ?_)
  simp -implicitDefEqProofs only [go_sem, simprocAttr, w1, w2, w3, w4]
  refine lpStep ?_
  simp -implicitDefEqProofs only [go_sem, simprocAttr, w1, w2, w3, w4]
  refine lpStep ?_
  simp -implicitDefEqProofs only [go_sem, simprocAttr, w1, w2, w3, w4]
  refine lpStep ?_
  simp -implicitDefEqProofs only [go_sem, simprocAttr, w1, w2, w3, w4]
  exact ret_fv
def lft (st lo hi : Int) (es ms : List (Int × Int)) (day : Int) : FV := span (st + upto day es - upto day ms * hi) (st + upto day es - upto day ms * lo)
theorem upto_nn {d : Int} : ∀ (l : List (Int × Int)), (∀ e ∈ l, 0 ≤ e.2) → 0 ≤ upto d l
  | [], _ => by simp [upto]
  | e :: l, h => by
    have ih := upto_nn (d := d) l fun x hx => h x (by simp [hx])
    have h1 := h e (by simp)
    simp only [upto]
    split <;> omega
theorem t25d {b : FV} {st lo hi : Int} {es ms : List (Int × Int)} (v : VB b st lo hi es ms) (day : Int) : Fn Q 25 [.fo (acc (st + upto day es) (upto day ms) lo hi)] (.one (.fx (lft st lo hi es ms day))) := by
  obtain ⟨_, s0, s1, el, ml, lo0, lh, hi1, w, es1, ms1⟩ := v
  have b1 := upto_bd (d := day) (show (0 : Int) ≤ 1000 by omega) es fun e he => ⟨(es1 e he).2.2.1, (es1 e he).2.2.2.1⟩
  have b2 := upto_bd (d := day) (show (0 : Int) ≤ 100 by omega) ms fun e he => ⟨by have := ms1 e he; omega, (ms1 e he).2.2.2⟩
  have b3 : 0 ≤ upto day ms := upto_nn ms fun e he => by have := ms1 e he; omega
  exact t25 (by omega) (by omega) b3 (by omega) lo0 lh hi1
theorem t10 {b : FV} {st lo hi : Int} {es ms : List (Int × Int)} (v : VB b st lo hi es ms) : Fn Q 10 [.fo b] (.tup [.fx (.list false [lft st lo hi es ms 365]), .fx (.int 0)]) := by
  have c := t23n v
  have c2 := t24 v
  have c3 := t25d v 365
  obtain ⟨⟨_, _, f1, f2, f3, se, sm, rfl, he, hm⟩, s0, s1, el, ml, lo0, lh, hi1, w, es1, ms1⟩ := v
  have o1 : (LV.fv se).one = true := by rcases ls_cases he with ⟨f4, rfl⟩ | ⟨rfl, he0⟩ <;> rfl
  have o2 : (LV.fv sm).one = true := by rcases ls_cases hm with ⟨f4, rfl⟩ | ⟨rfl, he0⟩ <;> rfl
  have o3 : (FV.list f1 [.int st]).one = true := rfl
  refine fn_intro Go.Proofs.Try.func10 rfl (by kernel_rfl) mix (k10 0) (Nat.le_of_ble_eq_true (by kernel_rfl)) ?_
  refine Abs.walk ?_
  unfold c10
  simp -implicitDefEqProofs only [go_sem, simprocAttr, o1, o2]
  refine callF [] false [.fo (.agg [.list f1 [.int st], se, .list f2 [recF f3 lo hi], sm]), .fo .nil] [] c ⟨rfl, rfl, trivial⟩ rfl (.inl rfl) ?_
  simp -implicitDefEqProofs only [go_sem, simprocAttr, o1, o2]
  refine lp (n := 2) (lpStep ?_)
  simp -implicitDefEqProofs only [go_sem, simprocAttr, o1, o2]
  refine callF [] false [.fo (.agg [.list f1 [.int st], se, .list f2 [recF f3 lo hi], sm]), .fo (.int 0)] [] c2 ⟨rfl, rfl, trivial⟩ rfl (.inl rfl) ?_
  simp -implicitDefEqProofs only [go_sem, simprocAttr]
  refine callF [] false [.fo (acc (st + upto 365 es) (upto 365 ms) lo hi)] [] c3 ⟨rfl, trivial⟩ rfl (.inl rfl) ?_
  simp -implicitDefEqProofs only [go_sem, simprocAttr, lft, span]
  refine app_gl (by simp -implicitDefEqProofs only [go_sem, simprocAttr]; rfl) idx_40 (by simp -implicitDefEqProofs only [go_sem, simprocAttr]; rfl) (by simp [FV.cells]) (by simp -implicitDefEqProofs only [go_sem, simprocAttr]) (by simp -implicitDefEqProofs only [go_sem, simprocAttr]) (by simp [maxLen]) (by simp) ?_
  simp -implicitDefEqProofs only [go_sem, simprocAttr]
  refine lpStep ?_
  simp -implicitDefEqProofs only [go_sem, simprocAttr]
  refine ret_tup (fun _ => true) ?_ (by simp [ownNames])
  simp -implicitDefEqProofs only [go_sem, simprocAttr, List.isEmpty]
theorem t28 {b : FV} {st lo hi : Int} {es ms : List (Int × Int)} (v : VB b st lo hi es ms) : Fn Q 28 [.fo b, .fo (.int 0)] (.one (.fx (.clos 48 [.ptr b.cells, .ptr [.int 0]]))) := by
  obtain ⟨⟨_, _, f1, f2, f3, se, sm, rfl, he, hm⟩, s0, s1, el, ml, lo0, lh, hi1, w, es1, ms1⟩ := v
  have o1 : (LV.fv se).one = true := by rcases ls_cases he with ⟨f4, rfl⟩ | ⟨rfl, he0⟩ <;> rfl
  have o2 : (LV.fv sm).one = true := by rcases ls_cases hm with ⟨f4, rfl⟩ | ⟨rfl, he0⟩ <;> rfl
  refine fn_intro Go.Proofs.Try.func28 rfl (by kernel_rfl) mix (k28 0) (Nat.le_of_ble_eq_true (by kernel_rfl)) ?_
  refine Abs.walk ?_
  unfold c28
  simp -implicitDefEqProofs only [go_sem, simprocAttr, o1, o2]
  refine ret_fx (fun _ => true) ?_
  simp -implicitDefEqProofs only [go_sem, simprocAttr]
/-- What days yields. -/
def its (st lo hi : Int) (es ms : List (Int × Int)) : Nat → Nat → List (List FV)
  | _, 0 => []
  | k, n + 1 => [.int k, lft st lo hi es ms k] :: its st lo hi es ms (k + 1) n
theorem t48 {b : FV} {st lo hi : Int} {es ms : List (Int × Int)} (v : VB b st lo hi es ms) : SeqFn Q 48 [] [.ptr b.cells, .ptr [.int 0]] (its st lo hi es ms 0 366) := by
  have c2 := fun d : Int => t46 v d
  have c3 := fun d : Int => t25d v d
  obtain ⟨⟨_, _, f1, f2, f3, se, sm, rfl, he, hm⟩, s0, s1, el, ml, lo0, lh, hi1, w, es1, ms1⟩ := v
  refine seq_intro Go.Proofs.Try.func48 rfl (by kernel_rfl) mix (k48 0) (Nat.le_of_ble_eq_true (by kernel_rfl)) ?_
  refine Abs.walk ?_
  unfold c48
  simp -implicitDefEqProofs only [go_sem, simprocAttr]
  refine lpInd (α := Nat × Nat) (m := fun a => a.2) (I := fun a σ => a.1 + a.2 = 366 ∧ σ.h.y = some (its st lo hi es ms a.1 a.2) ∧ σ.h.gen yN = 0 ∧ σ.ρ 0 = .it yN 0 ∧ σ.ρ 1 = .fv (.ptr [.list f1 [.int st], se, .list f2 [recF f3 lo hi], sm]) ∧ σ.ρ 2 = .fv (.ptr [.int 0]) ∧ σ.ρ 5 = .fv (.int a.1)) (0, 366) ?_ ?_
  · refine ⟨rfl, rfl, rfl, ?_, ?_, ?_, ?_⟩ <;> rfl
  · rintro ⟨k, n⟩ ⟨ρ, h⟩ ⟨e1, hy, hg, r0, r1, r2, r5⟩
    dsimp only at e1 hy hg r0 r1 r2 r5
    cases n with
    | zero =>
      have hk : ¬ ((k : Int) < 366) := by omega
      simp -implicitDefEqProofs only [go_sem, simprocAttr, r5, hk]
      exact .inl hy
    | succ n =>
      have hk : (k : Int) < 366 := by omega
      have b3 : IntKind.i64.wrap ((k : Int) + 1) = ((k + 1 : Nat) : Int) := wr _ (by omega) (by omega)
      simp -implicitDefEqProofs only [go_sem, simprocAttr, r0, r1, r2, r5, hk]
      refine callF [] false [.fo (.agg [.list f1 [.int st], se, .list f2 [recF f3 lo hi], sm]), .fo (.int 0), .fo (.int k)] [] (c2 k) ⟨rfl, rfl, rfl, trivial⟩ rfl (.inl rfl) ?_
      simp -implicitDefEqProofs only [go_sem, simprocAttr]
      refine callF [] false [.fo (acc (st + upto k es) (upto k ms) lo hi)] [] (c3 k) ⟨rfl, trivial⟩ rfl (.inl rfl) ?_
      simp -implicitDefEqProofs only [go_sem, simprocAttr]
      refine callY [.int k, lft st lo hi es ms k] (its st lo hi es ms (k + 1) n) hg rfl hy ?_ ?_
      · simp -implicitDefEqProofs only [go_sem, simprocAttr, r5, b3]
        refine ⟨(k + 1, n), Nat.lt_succ_self _, by dsimp only; omega, rfl, hg, ?_, ?_, ?_, ?_⟩
        · simp -implicitDefEqProofs only [go_sem, simprocAttr, r0]
        · simp -implicitDefEqProofs only [go_sem, simprocAttr, r1]
        · simp -implicitDefEqProofs only [go_sem, simprocAttr, r2]
        · simp -implicitDefEqProofs only [go_sem, simprocAttr]
      · simp -implicitDefEqProofs only [go_sem, simprocAttr]
        exact .inr rfl
end S12

