/- A part of the proof: G12j. -/
import Derived.Test.YtjelfogbefnmaaaG12i
set_option linter.unusedVariables false
set_option linter.unusedSimpArgs false
set_option maxRecDepth 20000
namespace S12
open Go Abs
structure VS (lo hi : Int) : Prop where
  a : 0 ≤ lo
  b : lo ≤ hi
  c : hi ≤ 20
theorem t71 {lo hi : Int} (v : VS lo hi) : Fn Q 71 [.fo (slip lo hi)] (.one (.fx (.bool false))) := by
  have i1 : okSpan 1 60 3 4 = true := rfl
  have i2 : okSpan 0 20 lo hi = true := by simp [okSpan, inB_ok v.a (show lo ≤ 20 by have := v.b; have := v.c; omega), inB_ok (show 0 ≤ hi by have := v.a; have := v.b; omega) v.c, v.b]
  have i3 : inB 0 100 1 = true := rfl
  refine fn_intro Go.Proofs.Try.func71 rfl (by kernel_rfl) mix (k71 0) (Nat.le_of_ble_eq_true (by kernel_rfl)) ?_
  refine Abs.walk ?_
  unfold c71
  simp -implicitDefEqProofs only [go_sem, simprocAttr, slip]
  refine callF [] false [.fo (.int 1), .fo (.int 60), .fo (span 3 4)] [] (t53 _ _ _ _) ⟨rfl, rfl, rfl, trivial⟩ rfl (.inl rfl) ?_
  simp -implicitDefEqProofs only [go_sem, simprocAttr, i1]
  refine callF [] false [.fo (.int 0), .fo (.int 20), .fo (span lo hi)] [] (t53 _ _ _ _) ⟨rfl, rfl, rfl, trivial⟩ rfl (.inl rfl) ?_
  simp -implicitDefEqProofs only [go_sem, simprocAttr, i2]
  refine callF [] true [.fo (.int 0), .fo (.int 100), .fo (.list false [.int 1])] [] (t19 _ _ _ [1] rfl (by simp)) ⟨rfl, rfl, rfl, trivial⟩ rfl (.inr rfl) ?_
  simp -implicitDefEqProofs only [go_sem, simprocAttr, i3]
  exact ret_fv
theorem t56 {lo hi : Int} (v : VS lo hi) : Fn Q 56 [.fo (works lo hi)] (.one (.fx (.int 0))) := by
  have i1 : inB 1 4 1 = true := rfl
  have i2 : inB 1 400 3 = true := rfl
  have i3 : inB 1 400 4 = true := rfl
  refine fn_intro Go.Proofs.Try.func56 rfl (by kernel_rfl) mix (k56 0) (Nat.le_of_ble_eq_true (by kernel_rfl)) ?_
  refine Abs.walk ?_
  unfold c56
  simp -implicitDefEqProofs only [go_sem, simprocAttr, works]
  refine callF [] true [.fo (.int 1), .fo (.int 4), .fo (.list false [.int 1])] [] (t19 _ _ _ [1] rfl (by simp)) ⟨rfl, rfl, rfl, trivial⟩ rfl (.inr rfl) ?_
  simp -implicitDefEqProofs only [go_sem, simprocAttr, i1]
  refine callF [] true [.fo (.int 1), .fo (.int 400), .fo (.list false [.int 3, .int 4])] [] (t19 _ _ _ [3, 4] rfl (by simp)) ⟨rfl, rfl, rfl, trivial⟩ rfl (.inr rfl) ?_
  simp -implicitDefEqProofs only [go_sem, simprocAttr, i2, i3]
  refine callC t72 true (fun _ => false) (by rfl) (xs := [slip lo hi]) rfl (by simp [Elem, slip, FV.cells, partF]) (by simp) en71 (by rfl) ?_ ?_
  · intro x hx
    simp at hx; subst hx
    exact t71 v
  simp -implicitDefEqProofs only [go_sem, simprocAttr, any_false]
  exact ret_fv
theorem t35 {lo hi : Int} (v : VS lo hi) : Fn Q 35 [.fo (works lo hi)] (.tup [.fx (works lo hi), .fx (.int 0)]) := by
  refine fn_intro Go.Proofs.Try.func35 rfl (by kernel_rfl) mix (k35 0) (Nat.le_of_ble_eq_true (by kernel_rfl)) ?_
  refine Abs.walk ?_
  unfold c35
  simp -implicitDefEqProofs only [go_sem, simprocAttr, works]
  refine W_opsD _ _ _ (Vs []) ?_ ?_
  · decide
  simp -implicitDefEqProofs only [go_sem, simprocAttr]
  refine callD [] false [.fo (works lo hi)] [] (t56 v) ⟨rfl, trivial⟩ rfl (.inl rfl) ?_
  simp -implicitDefEqProofs only [go_sem, simprocAttr]
  refine ret_tup (fun _ => true) ?_ (by simp [ownNames])
  simp -implicitDefEqProofs only [go_sem, simprocAttr]
theorem t37 {lo hi : Int} {f : Bool} : Fn Q 37 [.fo (works lo hi), .fo (.list f [.int 0])] (.one (.fx (.bool true))) := by
  have i1 : inB 0 0 0 = true := rfl
  refine fn_intro Go.Proofs.Try.func37 rfl (by kernel_rfl) mix (k37 0) (Nat.le_of_ble_eq_true (by kernel_rfl)) ?_
  refine Abs.walk ?_
  unfold c37
  simp -implicitDefEqProofs only [go_sem, simprocAttr, works]
  refine callF [] true [.fo (.int 0), .fo (.int 0), .fo (.list f [.int 0])] [] (t19 _ _ _ [0] rfl (by simp)) ⟨rfl, rfl, rfl, trivial⟩ rfl (.inr rfl) ?_
  simp -implicitDefEqProofs only [go_sem, simprocAttr, i1]
  exact ret_fv
def cnt1 : FV := .agg [.int 1, .int 0, .int 0, .int 0]
theorem t39 {f : Bool} : Fn Q 39 [.fo (.list f [.int 0])] (.one (.fx cnt1)) := by
  refine fn_intro Go.Proofs.Try.func39 rfl (by kernel_rfl) mix (k39 0) (Nat.le_of_ble_eq_true (by kernel_rfl)) ?_
  refine Abs.walk ?_
  unfold c39
  simp -implicitDefEqProofs only [go_sem, simprocAttr]
  refine lp (n := 2) (lpStep ?_)
  simp -implicitDefEqProofs only [go_sem, simprocAttr]
  refine lpStep ?_
  simp -implicitDefEqProofs only [go_sem, simprocAttr]
  exact ret_fv
def jb (n : Int) : FV := .agg [.int n, .list false [.int 0]]
theorem t36 {lo hi n : Int} (n0 : 1 ≤ n) (n1 : n ≤ 100) : Fn Q 36 [.fo (jb n), .fo (.ptr (works lo hi).cells)] (.one (.fx (.bool false))) := by
  have i1 : inB 1 200 n = true := inB_ok n0 (by omega)
  refine fn_intro Go.Proofs.Try.func36 rfl (by kernel_rfl) mix (k36 0) (Nat.le_of_ble_eq_true (by kernel_rfl)) ?_
  refine Abs.walk ?_
  unfold c36
  simp -implicitDefEqProofs only [go_sem, simprocAttr, jb, works]
  refine callF [] true [.fo (.int 1), .fo (.int 200), .fo (.list false [.int n])] [] (t19 _ _ _ [n] rfl (by simp)) ⟨rfl, rfl, rfl, trivial⟩ rfl (.inr rfl) ?_
  simp -implicitDefEqProofs only [go_sem, simprocAttr, i1]
  refine callF [] false [.fo (works lo hi), .fo (.list false [.int 0])] [] t37 ⟨rfl, rfl, trivial⟩ rfl (.inl rfl) ?_
  simp -implicitDefEqProofs only [go_sem, simprocAttr]
  exact ret_fv
def tk (lo hi n : Int) : FV := .list false [span (n * lo) (n * hi)]
structure I18 (lo hi : Int) (js : FV) (N k : Nat) (T : List FV) (g : Nat) (ρ : Nat → LV) (h : AH) : Prop where
  r4 : ρ 4 = .ptr 4 1 0
  r5 : ρ 5 = .gl 5 g
  r36 : ρ 36 = .fv js
  r37 : ρ 37 = .fv (.int N)
  r38 : ρ 38 = .fv (.int k)
  g4 : h.gen 4 = 1
  g5 : h.gen 5 = g
  o4 : h.obj 4 = some (.box [.fv (.list false [slip lo hi]), .fv (.int 3), .fv (.int 4)])
  o5 : h.obj 5 = some (.list 40 1 false T.isEmpty T)
theorem t18 {lo hi : Int} (v : VS lo hi) {js : FV} {ns : List Int} (hj : lsOf js = some (ns.map jb)) (hn : ∀ n ∈ ns, 1 ≤ n ∧ n ≤ 100) (hl : ns.length ≤ 6) :
    Fn Q 18 [.fo (works lo hi), .fo js] (.tup [.fx (works lo hi), .fx (lstN (ns.map (tk lo hi))), .fx (.int 0)]) := by
  have c3 : ∀ a, Elem true 2 (jb a) := fun _ => ⟨rfl, rfl⟩
  have l1 : ¬ (((ns.map jb).length : Nat) : Int) > 6 := by simp; omega
  refine fn_intro Go.Proofs.Try.func18 rfl (by kernel_rfl) mix (k18 0) (Nat.le_of_ble_eq_true (by kernel_rfl)) ?_
  refine Abs.walk ?_
  unfold c18
  simp -implicitDefEqProofs only [go_sem, simprocAttr, works]
  refine callF [] false [.fo (works lo hi)] [] (t35 v) ⟨rfl, trivial⟩ rfl (.inl rfl) ?_
  simp -implicitDefEqProofs only [go_sem, simprocAttr, works, lenV_ls hj, l1]
  refine callC t38 true (fun _ => false) (by rfl) hj (map_elem _ c3) (by simp; omega) en36 (by rfl) ?_ ?_
  · intro x hx
    obtain ⟨a, ha, rfl⟩ := List.mem_map.1 hx
    exact t36 (hn a ha).1 (hn a ha).2
  simp -implicitDefEqProofs only [go_sem, simprocAttr, any_false, lenV_ls hj]
  refine lpInd (α := List Int × Nat) (m := fun a => a.1.length) (I := fun a σ => ns.drop a.2 = a.1 ∧ a.2 ≤ 6 ∧ ∃ T g, T ++ a.1.map (tk lo hi) = ns.map (tk lo hi) ∧ T.length = a.2 ∧ I18 lo hi js (ns.map jb).length a.2 T g σ.ρ σ.h) (ns, 0) ?_ ?_
  · refine ⟨rfl, by simp, [], 1, rfl, rfl, ?_⟩
    constructor <;> first | rfl | (simp -implicitDefEqProofs only [go_sem, simprocAttr]; done)
  · rintro ⟨ys, k⟩ ⟨ρ, h⟩ ⟨ed, kb, T, g, et, lT, r4, r5, r36, r37, r38, g4, g5, o4, o5⟩
    dsimp only at ed kb et lT r4 r5 r36 r37 r38 g4 g5 o4 o5
    cases ys with
    | nil =>
      have hk : ¬ ((k : Int) < ((ns.map jb).length : Nat)) := by have := drop_end ed; simp; omega
      simp only [List.map_nil, List.append_nil] at et
      simp -implicitDefEqProofs only [go_sem, simprocAttr, r37, r38, hk, r4, g4, o4, r5]
      refine ret_tup (fun _ => true) ?_ (by simp [ownNames])
      simp -implicitDefEqProofs only [go_sem, simprocAttr, g5, o5, lstN, ← et]
    | cons e ys =>
      obtain ⟨d1, d2, d3, d4⟩ := drop_tail ed
      obtain ⟨q1, q2⟩ := hn e d4
      obtain ⟨va, vb, vc⟩ := v
      have hk : ((k : Int) < ((ns.map jb).length : Nat)) := by simp; omega
      have d7 : (ns.map jb)[k]? = some (jb e) := by simp [d2]
      have b3 : IntKind.i64.wrap ((k : Int) + 1) = ((k + 1 : Nat) : Int) := wr _ (by omega) (by omega)
      have p1 : 0 ≤ e * lo := Int.mul_nonneg (by omega) va
      have p2 : 0 ≤ e * hi := Int.mul_nonneg (by omega) (by omega)
      have p3 : e * lo ≤ 100 * 20 := Int.mul_le_mul q2 (by omega) va (by omega)
      have p4 : e * hi ≤ 100 * 20 := Int.mul_le_mul q2 vc (by omega) (by omega)
      have b4 : IntKind.i64.wrap e = e := wr _ (by omega) (by omega)
      have b5 : IntKind.i64.wrap (e * lo) = e * lo := wr _ (by omega) (by omega)
      have b6 : IntKind.i64.wrap (e * hi) = e * hi := wr _ (by omega) (by omega)
      simp -implicitDefEqProofs only [go_sem, simprocAttr, r36, r37, r38, hk, index_ls hj idx_28 d7 rfl, jb]
      refine callF [] false [.fo (.list false [.int 0])] [] t39 ⟨rfl, trivial⟩ rfl (.inl rfl) ?_
      simp -implicitDefEqProofs only [go_sem, simprocAttr, cnt1, r4, g4, o4]
      refine lp (n := 2) (lpStep ?_)
      simp -implicitDefEqProofs only [go_sem, simprocAttr, slip, Int.one_mul, b4, b5, b6]
      refine app_gl (by simp -implicitDefEqProofs only [go_sem, simprocAttr]; rfl) idx_40 (by simp -implicitDefEqProofs only [go_sem, simprocAttr]; rfl) (by simp [FV.cells]) (by simp -implicitDefEqProofs only [go_sem, simprocAttr]) (by simp -implicitDefEqProofs only [go_sem, simprocAttr]) (by simp [maxLen]) (by simp) ?_
      simp -implicitDefEqProofs only [go_sem, simprocAttr]
      refine lpStep ?_
      simp -implicitDefEqProofs only [go_sem, simprocAttr, r5, r38, b3, List.isEmpty]
      refine app_gl (by simp -implicitDefEqProofs only [go_sem, simprocAttr, g5, o5]; rfl) idx_59 (by simp -implicitDefEqProofs only [go_sem, simprocAttr]; rfl) (by simp [FV.cells]) (by simp -implicitDefEqProofs only [go_sem, simprocAttr]) (by simp [byt_40]; omega) (by simp [maxLen]; omega) (by simp) ?_
      simp -implicitDefEqProofs only [go_sem, simprocAttr, r38, b3]
      refine ⟨(ys, k + 1), Nat.lt_succ_self _, d1, by dsimp only; omega, T ++ [tk lo hi e], g + 1, by simpa using et, by simp [lT], ?_⟩
      exact { r4 := by simp -implicitDefEqProofs only [go_sem, simprocAttr, r4], r5 := by simp -implicitDefEqProofs only [go_sem, simprocAttr], r36 := by simp -implicitDefEqProofs only [go_sem, simprocAttr, r36], r37 := by simp -implicitDefEqProofs only [go_sem, simprocAttr, r37], r38 := by simp -implicitDefEqProofs only [go_sem, simprocAttr], g4 := by simp -implicitDefEqProofs only [go_sem, simprocAttr, g4], g5 := by simp -implicitDefEqProofs only [go_sem, simprocAttr], o4 := by simp -implicitDefEqProofs only [go_sem, simprocAttr, o4, slip], o5 := by simp -implicitDefEqProofs only [go_sem, simprocAttr]; cases T <;> rfl }
end S12

