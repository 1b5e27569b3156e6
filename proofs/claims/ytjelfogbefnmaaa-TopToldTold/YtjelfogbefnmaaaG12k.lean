/- A part of the proof: G12k. -/
import Derived.Test.YtjelfogbefnmaaaG12j
set_option linter.unusedVariables false
set_option linter.unusedSimpArgs false
set_option maxRecDepth 20000
namespace S12
open Go Abs
theorem lsOf_lstN (xs : List FV) : lsOf (lstN xs) = some xs := by
  cases xs <;> rfl
def tot : List Int → Int
  | [] => 0
  | x :: xs => x + tot xs
structure I7 (lo hi : Int) (ts : FV) (N k : Nat) (s : Int) (ρ : Nat → LV) (h : AH) : Prop where
  r9 : ρ 9 = .gl 28 1
  r29 : ρ 29 = .fv ts
  r30 : ρ 30 = .fv (.int N)
  r31 : ρ 31 = .fv (.int k)
  g28 : h.gen 28 = 1
  o28 : h.obj 28 = some (.list 38 2 false false [.agg [.int (s * lo), .int (s * hi)]])
theorem t7 {lo hi : Int} (v : VS lo hi) {js : FV} {ns : List Int} (hj : lsOf js = some (ns.map jb)) (hn : ∀ n ∈ ns, 1 ≤ n ∧ n ≤ 100) (hl : ns.length ≤ 6) :
    Fn Q 7 [.fo (works lo hi), .fo js] (.tup [.fx (.list false [span (tot ns * lo) (tot ns * hi)]), .fx (.int 0)]) := by
  have ht := lsOf_lstN (ns.map (tk lo hi))
  have c := t18 v hj hn hl
  generalize lstN (ns.map (tk lo hi)) = ts at ht c
  refine fn_intro Go.Proofs.Try.func7 rfl (by kernel_rfl) mix (k7 0) (Nat.le_of_ble_eq_true (by kernel_rfl)) ?_
  refine Abs.walk ?_
  unfold c7
  simp -implicitDefEqProofs only [go_sem, simprocAttr, works]
  refine callF [] false [.fo (works lo hi), .fo js] [] c ⟨rfl, rfl, trivial⟩ rfl (.inl rfl) ?_
  simp -implicitDefEqProofs only [go_sem, simprocAttr, works]
  simp -implicitDefEqProofs only [go_sem, simprocAttr, FV.ofCells, List.replicate, lenV_ls ht]
  refine lpInd (α := List Int × Nat × Int) (m := fun a => a.1.length) (I := fun a σ => ns.drop a.2.1 = a.1 ∧ a.2.1 ≤ 6 ∧ 0 ≤ a.2.2 ∧ a.2.2 ≤ 100 * a.2.1 ∧ a.2.2 + tot a.1 = tot ns ∧ I7 lo hi ts (ns.map (tk lo hi)).length a.2.1 a.2.2 σ.ρ σ.h) (ns, 0, 0) ?_ ?_
  · refine ⟨rfl, by simp, by simp, by simp, by simp, ?_⟩
    exact { r9 := by simp -implicitDefEqProofs only [go_sem, simprocAttr], r29 := by simp -implicitDefEqProofs only [go_sem, simprocAttr], r30 := by simp -implicitDefEqProofs only [go_sem, simprocAttr], r31 := by simp -implicitDefEqProofs only [go_sem, simprocAttr], g28 := by simp -implicitDefEqProofs only [go_sem, simprocAttr], o28 := by simp -implicitDefEqProofs only [go_sem, simprocAttr] }
  · rintro ⟨ys, k, s⟩ ⟨ρ, h⟩ ⟨ed, kb, s0, s1, et, r9, r29, r30, r31, g28, o28⟩
    dsimp only at ed kb s0 s1 et r9 r29 r30 r31 g28 o28
    cases ys with
    | nil =>
      have hk : ¬ ((k : Int) < ((ns.map (tk lo hi)).length : Nat)) := by have := drop_end ed; simp; omega
      have e : s = tot ns := by simpa [tot] using et
      simp -implicitDefEqProofs only [go_sem, simprocAttr, r30, r31, hk, r9]
      refine ret_tup (fun _ => true) ?_ (by simp [ownNames])
      simp -implicitDefEqProofs only [go_sem, simprocAttr, g28, o28, e, span]
    | cons e ys =>
      obtain ⟨d1, d2, d3, d4⟩ := drop_tail ed
      obtain ⟨q1, q2⟩ := hn e d4
      obtain ⟨va, vb, vc⟩ := v
      have hk : ((k : Int) < ((ns.map (tk lo hi)).length : Nat)) := by simp; omega
      have d7 : (ns.map (tk lo hi))[k]? = some (tk lo hi e) := by simp [d2]
      have b3 : IntKind.i64.wrap ((k : Int) + 1) = ((k + 1 : Nat) : Int) := wr _ (by omega) (by omega)
      have m1 : s * lo + e * lo = (s + e) * lo := (Int.add_mul _ _ _).symm
      have m2 : s * hi + e * hi = (s + e) * hi := (Int.add_mul _ _ _).symm
      have p1 : 0 ≤ (s + e) * lo := Int.mul_nonneg (by omega) va
      have p2 : 0 ≤ (s + e) * hi := Int.mul_nonneg (by omega) (by omega)
      have p3 : (s + e) * lo ≤ 700 * 20 := Int.mul_le_mul (by omega) (by omega) va (by omega)
      have p4 : (s + e) * hi ≤ 700 * 20 := Int.mul_le_mul (by omega) vc (by omega) (by omega)
      have b5 : IntKind.i64.wrap ((s + e) * lo) = (s + e) * lo := wr _ (by omega) (by omega)
      have b6 : IntKind.i64.wrap ((s + e) * hi) = (s + e) * hi := wr _ (by omega) (by omega)
      simp -implicitDefEqProofs only [go_sem, simprocAttr, r29, r30, r31, hk, index_ls ht idx_59 d7 rfl, tk]
      refine lp (n := 2) (lpStep ?_)
      simp -implicitDefEqProofs only [go_sem, simprocAttr, span, r9, g28, o28, m1, b5]
      refine sto_elem (by rfl) (by rfl) (by rfl) (by simp -implicitDefEqProofs only [go_sem, simprocAttr, g28, o28]; rfl) (by rfl) (by decide) ?_
      simp -implicitDefEqProofs only [go_sem, simprocAttr, r9, g28, o28, m2, b6, FV.withCells]
      refine sto_elem (by rfl) (by rfl) (by rfl) (by simp -implicitDefEqProofs only [go_sem, simprocAttr, g28, o28]; rfl) (by rfl) (by decide) ?_
      simp -implicitDefEqProofs only [go_sem, simprocAttr]
      refine lpStep ?_
      simp -implicitDefEqProofs only [go_sem, simprocAttr, r31, b3]
      refine ⟨(ys, k + 1, s + e), Nat.lt_succ_self _, d1, by dsimp only; omega, by dsimp only; omega, by dsimp only; omega, by simp only [tot] at et; dsimp only; omega, ?_⟩
      exact { r9 := by simp -implicitDefEqProofs only [go_sem, simprocAttr, r9], r29 := by simp -implicitDefEqProofs only [go_sem, simprocAttr, r29], r30 := by simp -implicitDefEqProofs only [go_sem, simprocAttr, r30], r31 := by simp -implicitDefEqProofs only [go_sem, simprocAttr], g28 := by simp -implicitDefEqProofs only [go_sem, simprocAttr, g28], o28 := by simp -implicitDefEqProofs only [go_sem, simprocAttr]; rfl }
end S12

