/- A part of the proof: G12i. -/
import Derived.Test.YtjelfogbefnmaaaG12h
set_option linter.unusedVariables false
set_option linter.unusedSimpArgs false
set_option maxRecDepth 20000
namespace S12
open Go Abs
def lowL (st hi : Int) (es ms : List (Int × Int)) (d : Int) : Int := st + upto d es - upto d ms * hi
/-- When goods run out: surely, possibly. -/
def lowF (st lo hi : Int) (es ms : List (Int × Int)) : Nat → Nat → Int → Int × Int
  | _, 0, p => (-1, p)
  | k, n + 1, p => if lowL st lo es ms k < 0 then ((k : Int), if lowL st hi es ms k < 0 ∧ p = -1 then (k : Int) else p) else lowF st lo hi es ms (k + 1) n (if lowL st hi es ms k < 0 ∧ p = -1 then (k : Int) else p)
theorem t12 {b : FV} {st lo hi : Int} {es ms : List (Int × Int)} (v : VB b st lo hi es ms) : Fn Q 12 [.fo b, .fo (.int 0)]
    (.tup [.fx (.int (lowF st lo hi es ms 0 366 (-1)).1), .fx (.int (lowF st lo hi es ms 0 366 (-1)).2), .fx (.int 0)]) := by
  have c := t23n v
  have c2 := t28 v
  have c3 := t48 v
  obtain ⟨⟨_, _, f1, f2, f3, se, sm, rfl, he, hm⟩, s0, s1, el, ml, lo0, lh, hi1, w, es1, ms1⟩ := v
  have o1 : (LV.fv se).one = true := by rcases ls_cases he with ⟨f4, rfl⟩ | ⟨rfl, he0⟩ <;> rfl
  have o2 : (LV.fv sm).one = true := by rcases ls_cases hm with ⟨f4, rfl⟩ | ⟨rfl, he0⟩ <;> rfl
  have i1 : inB 0 0 0 = true := rfl
  generalize hR : lowF st lo hi es ms 0 366 (-1) = R
  generalize hI : its st lo hi es ms 0 366 = items at c3
  refine fn_intro Go.Proofs.Try.func12 rfl (by kernel_rfl) mix (k12 0) (Nat.le_of_ble_eq_true (by kernel_rfl)) ?_
  refine Abs.walk ?_
  unfold c12
  simp -implicitDefEqProofs only [go_sem, simprocAttr, o1, o2]
  refine callF [] false [.fo (.agg [.list f1 [.int st], se, .list f2 [recF f3 lo hi], sm]), .fo .nil] [] c ⟨rfl, rfl, trivial⟩ rfl (.inl rfl) ?_
  simp -implicitDefEqProofs only [go_sem, simprocAttr, o1, o2]
  refine callF [] true [.fo (.int 0), .fo (.int 0), .fo (.list false [.int 0])] [] (t27 _ _ _ [0] rfl (by simp)) ⟨rfl, rfl, rfl, trivial⟩ rfl (.inr rfl) ?_
  simp -implicitDefEqProofs only [go_sem, simprocAttr, i1, o1, o2]
  refine callF [] false [.fo (.agg [.list f1 [.int st], se, .list f2 [recF f3 lo hi], sm]), .fo (.int 0)] [] c2 ⟨rfl, rfl, trivial⟩ rfl (.inl rfl) ?_
  simp -implicitDefEqProofs only [go_sem, simprocAttr]
  refine rgInd [] items (argSq rfl c3) (fun xs h => ∃ (k n : Nat) (p : Int), k + n = 366 ∧ xs = its st lo hi es ms k n ∧ h.gen 4 = 1 ∧ h.gen 5 = 1 ∧ h.obj 4 = some (.box [.fv (.int (-1))]) ∧ h.obj 5 = some (.box [.fv (.int p)]) ∧ lowF st lo hi es ms k n p = R) ?_ ?_ ?_
  · exact ⟨0, 366, -1, rfl, hI.symm, rfl, rfl, rfl, rfl, hR⟩
  · rintro h ⟨k, n, p, e1, e2, g4, g5, b4, b5, e3⟩
    cases n with
    | succ n => simp [its] at e2
    | zero =>
      simp -implicitDefEqProofs only [go_sem, simprocAttr]
      refine W_opsD _ _ _ (Vs [[], [], [4], [5], []]) ?_ ?_
      · decide
      simp -implicitDefEqProofs only [go_sem, simprocAttr, g4, g5, b4, b5]
      refine ret_tup (fun _ => true) ?_ (by simp [ownNames])
      simp only [lowF] at e3
      subst e3
      simp -implicitDefEqProofs only [go_sem, simprocAttr]
  · rintro x xs h ⟨k, n, p, e1, e2, g4, g5, b4, b5, e3⟩
    cases n with
    | zero => simp [its] at e2
    | succ n =>
      simp only [its, List.cons.injEq] at e2
      obtain ⟨rfl, rfl⟩ := e2
      refine ⟨rfl, ?_⟩
      have w3 : IntKind.i64.wrap ((k : Int) + 1) = ((k + 1 : Nat) : Int) := wr _ (by omega) (by omega)
      by_cases hA : st + upto (k : Int) es - upto (k : Int) ms * hi < 0
      · by_cases hp : p = -1
        · subst hp
          by_cases hB : st + upto (k : Int) es - upto (k : Int) ms * lo < 0
          · simp only [lowF, lowL, hA, hB, true_and, if_true] at e3
            simp -implicitDefEqProofs only [go_sem, simprocAttr, lft, span, g4, g5, b4, b5, hA, hB]
            refine W_opsD _ _ _ (Vs [[], [], [4], [5], []]) ?_ ?_
            · decide
            simp -implicitDefEqProofs only [go_sem, simprocAttr, g4, g5, b4, b5]
            refine ret_tup (fun _ => true) ?_ (by simp [ownNames])
            subst e3
            simp -implicitDefEqProofs only [go_sem, simprocAttr]
          · simp only [lowF, lowL, hA, hB, true_and, if_true] at e3
            simp -implicitDefEqProofs only [go_sem, simprocAttr, lft, span, g4, g5, b4, b5, hA, hB]
            exact ⟨k + 1, n, (k : Int), by omega, rfl, by simp -implicitDefEqProofs only [go_sem, simprocAttr, g4], by simp -implicitDefEqProofs only [go_sem, simprocAttr, g5], by simp -implicitDefEqProofs only [go_sem, simprocAttr, b4], by simp -implicitDefEqProofs only [go_sem, simprocAttr, b5], e3⟩
        · have hp2 : (p == -1) = false := by simpa using hp
          by_cases hB : st + upto (k : Int) es - upto (k : Int) ms * lo < 0
          · simp only [lowF, lowL, hA, hB, hp, and_false, if_false, if_true] at e3
            simp -implicitDefEqProofs only [go_sem, simprocAttr, lft, span, g4, g5, b4, b5, hA, hB, hp2]
            refine W_opsD _ _ _ (Vs [[], [], [4], [5], []]) ?_ ?_
            · decide
            simp -implicitDefEqProofs only [go_sem, simprocAttr, g4, g5, b4, b5]
            refine ret_tup (fun _ => true) ?_ (by simp [ownNames])
            subst e3
            simp -implicitDefEqProofs only [go_sem, simprocAttr]
          · simp only [lowF, lowL, hA, hB, hp, and_false, if_false, if_true] at e3
            simp -implicitDefEqProofs only [go_sem, simprocAttr, lft, span, g4, g5, b4, b5, hA, hB, hp2]
            exact ⟨k + 1, n, p, by omega, rfl, by simp -implicitDefEqProofs only [go_sem, simprocAttr, g4], by simp -implicitDefEqProofs only [go_sem, simprocAttr, g5], by simp -implicitDefEqProofs only [go_sem, simprocAttr, b4], by simp -implicitDefEqProofs only [go_sem, simprocAttr, b5], e3⟩
      · by_cases hB : st + upto (k : Int) es - upto (k : Int) ms * lo < 0
        · simp only [lowF, lowL, hA, hB, false_and, if_false, if_true] at e3
          simp -implicitDefEqProofs only [go_sem, simprocAttr, lft, span, g4, g5, b4, b5, hA, hB]
          refine W_opsD _ _ _ (Vs [[], [], [4], [5], []]) ?_ ?_
          · decide
          simp -implicitDefEqProofs only [go_sem, simprocAttr, g4, g5, b4, b5]
          refine ret_tup (fun _ => true) ?_ (by simp [ownNames])
          subst e3
          simp -implicitDefEqProofs only [go_sem, simprocAttr]
        · simp only [lowF, lowL, hA, hB, false_and, if_false, if_true] at e3
          simp -implicitDefEqProofs only [go_sem, simprocAttr, lft, span, g4, g5, b4, b5, hA, hB]
          exact ⟨k + 1, n, p, by omega, rfl, by simp -implicitDefEqProofs only [go_sem, simprocAttr, g4], by simp -implicitDefEqProofs only [go_sem, simprocAttr, g5], by simp -implicitDefEqProofs only [go_sem, simprocAttr, b4], by simp -implicitDefEqProofs only [go_sem, simprocAttr, b5], e3⟩
end S12

