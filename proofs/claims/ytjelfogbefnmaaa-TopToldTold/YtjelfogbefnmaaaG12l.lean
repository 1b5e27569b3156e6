/- A part of the proof: G12l. -/
import Derived.Test.YtjelfogbefnmaaaG12k
set_option linter.unusedVariables false
set_option linter.unusedSimpArgs false
set_option maxRecDepth 20000
namespace S12
open Go Abs
/-- How many jobs can be done, each of which takes c ounces a foot. -/
def doneF (c : Int) : List Int → Int → Nat → Nat
  | [], _, m => m
  | n :: ns, l, m => if l - n * c < 0 then m else doneF c ns (l - n * c) (m + 1)
structure I20 (g : List FV → Option FV) (ts : FV) (N k : Nat) (l : Int) (ρ : Nat → LV) (h : AH) : Prop where
  r2 : ρ 2 = .fn g
  r6 : ρ 6 = .fv (.int k)
  r7 : ρ 7 = .gl 14 1
  r18 : ρ 18 = .fv ts
  r19 : ρ 19 = .fv (.int N)
  r20 : ρ 20 = .fv (.int k)
  g14 : h.gen 14 = 1
  o14 : h.obj 14 = some (.list 3 1 false false [.int l])
theorem t20 {lo hi c : Int} {ts : FV} {ns : List Int} {f : Bool} {bar : Int} {g : List FV → Option FV} (ht : lsOf ts = some (ns.map (tk lo hi))) (hn : ∀ n ∈ ns, 1 ≤ n ∧ n ≤ 100) (hl : ns.length ≤ 6) (c0 : 0 ≤ c) (c1 : c ≤ 20)
    (b0 : 0 ≤ bar) (b1 : bar ≤ 20000) (hg : ∀ n, g [span (n * lo) (n * hi)] = some (.int (n * c))) : Fn Q 20 [.fo ts, .fo (.list f [.int bar]), .fn g] (.one (.fx (.int (doneF c ns bar 0 : Nat)))) := by
  refine fn_intro Go.Proofs.Try.func20 rfl (by kernel_rfl) mix (k20 0) (Nat.le_of_ble_eq_true (by kernel_rfl)) ?_
  refine Abs.walk ?_
  unfold c20
  simp -implicitDefEqProofs only [go_sem, simprocAttr]
  simp -implicitDefEqProofs only [go_sem, simprocAttr, FV.ofCells, List.replicate]
  refine cpy_gl (by simp -implicitDefEqProofs only [go_sem, simprocAttr]; rfl) idx_29 (by simp -implicitDefEqProofs only [go_sem, simprocAttr]; rfl) (by simp [FV.cells]) (by simp) ?_
  simp -implicitDefEqProofs only [go_sem, simprocAttr, lenV_ls ht]
  refine lpInd (α := List Int × Nat × Int) (m := fun a => a.1.length) (I := fun a σ => ns.drop a.2.1 = a.1 ∧ a.2.1 ≤ 6 ∧ 0 ≤ a.2.2 ∧ a.2.2 ≤ 20000 ∧ doneF c a.1 a.2.2 a.2.1 = doneF c ns bar 0 ∧ I20 g ts (ns.map (tk lo hi)).length a.2.1 a.2.2 σ.ρ σ.h) (ns, 0, bar) ?_ ?_
  · refine ⟨rfl, by simp, b0, b1, rfl, ?_⟩
    exact { r2 := by simp -implicitDefEqProofs only [go_sem, simprocAttr], r6 := by simp -implicitDefEqProofs only [go_sem, simprocAttr], r7 := by simp -implicitDefEqProofs only [go_sem, simprocAttr], r18 := by simp -implicitDefEqProofs only [go_sem, simprocAttr], r19 := by simp -implicitDefEqProofs only [go_sem, simprocAttr], r20 := by simp -implicitDefEqProofs only [go_sem, simprocAttr], g14 := by simp -implicitDefEqProofs only [go_sem, simprocAttr], o14 := by simp -implicitDefEqProofs only [go_sem, simprocAttr] }
  · rintro ⟨ys, k, l⟩ ⟨ρ, h⟩ ⟨ed, kb, l0, l1, et, r2, r6, r7, r18, r19, r20, g14, o14⟩
    dsimp only at ed kb l0 l1 et r2 r6 r7 r18 r19 r20 g14 o14
    cases ys with
    | nil =>
      have hk : ¬ ((k : Int) < ((ns.map (tk lo hi)).length : Nat)) := by have := drop_end ed; simp; omega
      have e : k = doneF c ns bar 0 := et
      simp -implicitDefEqProofs only [go_sem, simprocAttr, r19, r20, hk, r6]
      rw [← e]
      exact ret_fv
    | cons e ys =>
      obtain ⟨d1, d2, d3, d4⟩ := drop_tail ed
      obtain ⟨q1, q2⟩ := hn e d4
      have hk : ((k : Int) < ((ns.map (tk lo hi)).length : Nat)) := by simp; omega
      have d7 : (ns.map (tk lo hi))[k]? = some (tk lo hi e) := by simp [d2]
      have b3 : IntKind.i64.wrap ((k : Int) + 1) = ((k + 1 : Nat) : Int) := wr _ (by omega) (by omega)
      have p1 : 0 ≤ e * c := Int.mul_nonneg (by omega) c0
      have p3 : e * c ≤ 100 * 20 := Int.mul_le_mul q2 c1 c0 (by omega)
      have b5 : IntKind.i64.wrap (l - e * c) = l - e * c := wr _ (by omega) (by omega)
      simp -implicitDefEqProofs only [go_sem, simprocAttr, r18, r19, r20, hk, index_ls ht idx_59 d7 rfl, tk]
      refine lp (n := 2) (lpStep ?_)
      simp -implicitDefEqProofs only [go_sem, simprocAttr, span]
      refine W_opsD _ _ _ (Vs []) ?_ ?_
      · decide
      simp -implicitDefEqProofs only [go_sem, simprocAttr, r7, g14, o14, r2]
      refine callDg false [span (e * lo) (e * hi)] (by rfl) (hg e) (.inl rfl) ?_
      simp -implicitDefEqProofs only [go_sem, simprocAttr, r7, g14, o14, b5]
      refine sto_elem (by rfl) (by rfl) (by rfl) (by simp -implicitDefEqProofs only [go_sem, simprocAttr, g14, o14]; rfl) (by rfl) (by decide) ?_
      by_cases hc : l - e * c < 0
      · simp -implicitDefEqProofs only [go_sem, simprocAttr, r7, g14, o14, FV.withCells, hc, r6]
        have e2 : k = doneF c ns bar 0 := by rw [← et]; simp [doneF, hc]
        rw [← e2]
        exact ret_fv
      · simp -implicitDefEqProofs only [go_sem, simprocAttr, r7, g14, o14, FV.withCells, hc]
        refine lpStep ?_
        simp -implicitDefEqProofs only [go_sem, simprocAttr, r6, r20, b3]
        refine ⟨(ys, k + 1, l - e * c), Nat.lt_succ_self _, d1, by dsimp only; omega, by dsimp only; omega, by dsimp only; omega, by rw [← et]; simp [doneF, hc], ?_⟩
        exact { r2 := by simp -implicitDefEqProofs only [go_sem, simprocAttr, r2], r6 := by simp -implicitDefEqProofs only [go_sem, simprocAttr], r7 := by simp -implicitDefEqProofs only [go_sem, simprocAttr, r7], r18 := by simp -implicitDefEqProofs only [go_sem, simprocAttr, r18], r19 := by simp -implicitDefEqProofs only [go_sem, simprocAttr, r19], r20 := by simp -implicitDefEqProofs only [go_sem, simprocAttr], g14 := by simp -implicitDefEqProofs only [go_sem, simprocAttr, g14], o14 := by simp -implicitDefEqProofs only [go_sem, simprocAttr] }
theorem t21 {a b : Int} : Fn Q 21 [.fo (span a b)] (.one (.fx (.int b))) := by
  refine fn_intro Go.Proofs.Try.func21 rfl (by kernel_rfl) mix (k21 0) (Nat.le_of_ble_eq_true (by kernel_rfl)) ?_
  refine Abs.walk ?_
  unfold c21
  simp -implicitDefEqProofs only [go_sem, simprocAttr, span]
  exact ret_fv
theorem t22 {a b : Int} : Fn Q 22 [.fo (span a b)] (.one (.fx (.int a))) := by
  refine fn_intro Go.Proofs.Try.func22 rfl (by kernel_rfl) mix (k22 0) (Nat.le_of_ble_eq_true (by kernel_rfl)) ?_
  refine Abs.walk ?_
  unfold c22
  simp -implicitDefEqProofs only [go_sem, simprocAttr, span]
  exact ret_fv
def selF (hi : Bool) : List FV → Option FV
  | [.agg [.val (.int .i64 a), .val (.int .i64 b)]] => some (.int (if hi then b else a))
  | _ => none
theorem selF_some {hi : Bool} {xs : List FV} {r : FV} (h : selF hi xs = some r) : ∃ a b, xs = [span a b] ∧ r = .int (if hi then b else a) := by
  unfold selF at h
  split at h
  · rename_i a b
    simp at h
    exact ⟨a, b, rfl, h.symm⟩
  · simp at h
theorem t9 {lo hi : Int} (v : VS lo hi) {js : FV} {ns : List Int} {f : Bool} {bar : Int} (hj : lsOf js = some (ns.map jb)) (hn : ∀ n ∈ ns, 1 ≤ n ∧ n ≤ 100) (hl : ns.length ≤ 6) (b0 : 0 ≤ bar) (b1 : bar ≤ 20000) :
    Fn Q 9 [.fo (works lo hi), .fo js, .fo (.list f [.int bar])] (.tup [.fx (.int (doneF hi ns bar 0 : Nat)), .fx (.int (doneF lo ns bar 0 : Nat)), .fx (.int 0)]) := by
  have ht := lsOf_lstN (ns.map (tk lo hi))
  have c := t18 v hj hn hl
  generalize lstN (ns.map (tk lo hi)) = ts at ht c
  have i1 : inB 0 20000 bar = true := inB_ok b0 b1
  obtain ⟨va, vb, vc⟩ := v
  refine fn_intro Go.Proofs.Try.func9 rfl (by kernel_rfl) mix (k9 0) (Nat.le_of_ble_eq_true (by kernel_rfl)) ?_
  refine Abs.walk ?_
  unfold c9
  simp -implicitDefEqProofs only [go_sem, simprocAttr, works]
  refine callF [] false [.fo (works lo hi), .fo js] [] c ⟨rfl, rfl, trivial⟩ rfl (.inl rfl) ?_
  simp -implicitDefEqProofs only [go_sem, simprocAttr, works]
  refine callF [] true [.fo (.int 0), .fo (.int 20000), .fo (.list f [.int bar])] [] (t19 _ _ _ [bar] rfl (by simp)) ⟨rfl, rfl, rfl, trivial⟩ rfl (.inr rfl) ?_
  simp -implicitDefEqProofs only [go_sem, simprocAttr, i1]
  refine callF [] false [.fo ts, .fo (.list f [.int bar]), .fn (selF true)] [] (t20 ht hn hl (by omega) vc b0 b1 fun n => rfl) ⟨rfl, rfl, .inr ⟨21, [], rfl, en21, ?_⟩, trivial⟩ rfl (.inl rfl) ?_
  · intro xs r hr
    obtain ⟨a, b, rfl, rfl⟩ := selF_some hr
    exact t21
  simp -implicitDefEqProofs only [go_sem, simprocAttr]
  refine callF [] false [.fo ts, .fo (.list f [.int bar]), .fn (selF false)] [] (t20 ht hn hl va (by omega) b0 b1 fun n => rfl) ⟨rfl, rfl, .inr ⟨22, [], rfl, en22, ?_⟩, trivial⟩ rfl (.inl rfl) ?_
  · intro xs r hr
    obtain ⟨a, b, rfl, rfl⟩ := selF_some hr
    exact t22
  simp -implicitDefEqProofs only [go_sem, simprocAttr]
  refine ret_tup (fun _ => true) ?_ (by simp [ownNames])
  simp -implicitDefEqProofs only [go_sem, simprocAttr]
end S12

