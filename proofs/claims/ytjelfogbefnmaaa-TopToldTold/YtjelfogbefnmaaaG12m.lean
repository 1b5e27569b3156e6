/- A part of the proof: G12m. -/
import Derived.Test.YtjelfogbefnmaaaG12l
set_option linter.unusedVariables false
set_option linter.unusedSimpArgs false
set_option maxRecDepth 20000
namespace S12
open Go Abs
theorem t68 (n : Int) : Fn Q 68 [.fo (.int n)] (.one (.fx (.bool false))) := by
  refine fn_intro Go.Proofs.Try.func68 rfl (by kernel_rfl) mix (k68 0) (Nat.le_of_ble_eq_true (by kernel_rfl)) ?_
  refine Abs.walk ?_
  unfold c68
  simp -implicitDefEqProofs only [go_sem, simprocAttr]
  exact ret_fv
def cmpI (a b : Int) : Int := if a < b then -1 else if a > b then 1 else 0
theorem t51 (a b : Int) : Fn Q 51 [.fo (.int a), .fo (.int b)] (.one (.fx (.int (cmpI a b)))) := by
  refine fn_intro Go.Proofs.Try.func51 rfl (by kernel_rfl) mix (k51 0) (Nat.le_of_ble_eq_true (by kernel_rfl)) ?_
  refine Abs.walk ?_
  unfold c51
  simp -implicitDefEqProofs only [go_sem, simprocAttr]
  refine callF [] false [.fo (.int a)] [] (t68 a) ⟨rfl, trivial⟩ rfl (.inl rfl) ?_
  simp -implicitDefEqProofs only [go_sem, simprocAttr]
  refine callF [] false [.fo (.int b)] [] (t68 b) ⟨rfl, trivial⟩ rfl (.inl rfl) ?_
  by_cases h1 : a < b
  · simp -implicitDefEqProofs only [go_sem, simprocAttr, h1, cmpI]
    exact ret_fv
  · by_cases h2 : a > b
    · simp -implicitDefEqProofs only [go_sem, simprocAttr, h1, h2, cmpI]
      exact ret_fv
    · simp -implicitDefEqProofs only [go_sem, simprocAttr, h1, h2, cmpI]
      exact ret_fv
def prt : List FV := [.int 1, .int 2, .int 4]
/-- What is left of a part. -/
def rmd (i : Nat) : Int := (10 * ([1, 2, 4] : List Int).getD i 0).tmod 7
theorem t50 {f : Bool} (i k : Nat) (hi : i < 3) (hk : k < 3) : Fn Q 50 [.fo (.int i), .fo (.int k), .fo (.ptr [.int 10]), .fo (.ptr [.list f prt]), .fo (.ptr [.int 7])] (.one (.fx (.int (cmpI (rmd k) (rmd i))))) := by
  have e1 : i = 0 ∨ i = 1 ∨ i = 2 := by omega
  have e2 : k = 0 ∨ k = 1 ∨ k = 2 := by omega
  rcases e1 with rfl | rfl | rfl <;> rcases e2 with rfl | rfl | rfl
  all_goals
    refine fn_intro Go.Proofs.Try.func50 rfl (by kernel_rfl) mix (k50 0) (Nat.le_of_ble_eq_true (by kernel_rfl)) ?_
    refine Abs.walk ?_
    unfold c50
    simp -implicitDefEqProofs only [go_sem, simprocAttr, prt]
    refine callF [] false [.fo (.int _), .fo (.int _)] [] (t51 _ _) ⟨rfl, rfl, trivial⟩ rfl (.inl rfl) ?_
    simp -implicitDefEqProofs only [go_sem, simprocAttr]
    exact ret_eq rfl
structure Srt (h h' : AH) : Prop where
  g : h'.gen = h.gen
  y : h'.y = h.y
  o : h'.obj 47 = some (.list 3 1 false false [.int 1, .int 2, .int 0])
  n : ∀ o, o ≠ 47 → h'.obj o = h.obj o
structure Pre (f : Bool) (h : AH) : Prop where
  g47 : h.gen 47 = 1
  g2 : h.gen 2 = 1
  g3 : h.gen 3 = 1
  g6 : h.gen 6 = 1
  o2 : h.obj 2 = some (.box [.fv (.int 10)])
  o3 : h.obj 3 = some (.box [.fv (.list f prt)])
  o6 : h.obj 6 = some (.box [.fv (.int 7)])
def cmpC : LV := .clos 50 [.ptr 2 1 0, .ptr 3 1 0, .ptr 6 1 0]
theorem a76 {f : Bool} {h : AH} (p : Pre f h) (o47 : h.obj 47 = some (.list 3 1 false false [.int 0, .int 1, .int 2])) : AC Q 76 [.gl 47 1, .fv (.int 0), .fv (.int 3), cmpC] h fun lv h' => Srt h h' := by
  obtain ⟨g47, g2, g3, g6, o2, o3, o6⟩ := p
  refine ac_intro (nb := 1000) Go.Proofs.Try.func76 rfl (by kernel_rfl) mix (k76 1000) (Nat.le_of_ble_eq_true (by kernel_rfl)) ?_
  refine Abs.walk ?_
  unfold c76
  simp -implicitDefEqProofs only [go_sem, simprocAttr, cmpC]
  refine lp (n := 3) (lpStep ?_)
  simp -implicitDefEqProofs only [go_sem, simprocAttr]
  refine lp (n := 3) (lpStep ?_)
  simp -implicitDefEqProofs only [go_sem, simprocAttr, g47, o47]
  refine callF [] true [.fo (.int 1), .fo (.int 0)] [.ptr [.int 10], .ptr [.list f prt], .ptr [.int 7]] (t50 1 0 (by decide) (by decide)) ⟨rfl, rfl, trivial⟩ (by simp -implicitDefEqProofs only [go_sem, simprocAttr, g2, g3, g6, o2, o3, o6]) (.inr rfl) ?_
  have e1 : cmpI (rmd 0) (rmd 1) = -1 := by decide
  simp -implicitDefEqProofs only [go_sem, simprocAttr, e1, g47, o47]
  refine sto_elem (by rfl) (by rfl) (by rfl) (by simp -implicitDefEqProofs only [go_sem, simprocAttr, g47, o47]; rfl) (by rfl) (by decide) ?_
  simp -implicitDefEqProofs only [go_sem, simprocAttr, g47]
  refine sto_elem (by rfl) (by rfl) (by rfl) (by simp -implicitDefEqProofs only [go_sem, simprocAttr, g47]; rfl) (by rfl) (by decide) ?_
  simp -implicitDefEqProofs only [go_sem, simprocAttr, FV.withCells]
  refine lpStep ?_
  simp -implicitDefEqProofs only [go_sem, simprocAttr]
  refine lpStep ?_
  simp -implicitDefEqProofs only [go_sem, simprocAttr]
  refine lp (n := 3) (lpStep ?_)
  simp -implicitDefEqProofs only [go_sem, simprocAttr, g47]
  refine callF [] true [.fo (.int 2), .fo (.int 0)] [.ptr [.int 10], .ptr [.list f prt], .ptr [.int 7]] (t50 2 0 (by decide) (by decide)) ⟨rfl, rfl, trivial⟩ (by simp -implicitDefEqProofs only [go_sem, simprocAttr, g2, g3, g6, o2, o3, o6]) (.inr rfl) ?_
  have e2 : cmpI (rmd 0) (rmd 2) = -1 := by decide
  simp -implicitDefEqProofs only [go_sem, simprocAttr, e2, g47]
  refine sto_elem (by rfl) (by rfl) (by rfl) (by simp -implicitDefEqProofs only [go_sem, simprocAttr, g47]; rfl) (by rfl) (by decide) ?_
  simp -implicitDefEqProofs only [go_sem, simprocAttr, g47, FV.withCells]
  refine sto_elem (by rfl) (by rfl) (by rfl) (by simp -implicitDefEqProofs only [go_sem, simprocAttr, g47]; rfl) (by rfl) (by decide) ?_
  simp -implicitDefEqProofs only [go_sem, simprocAttr, FV.withCells]
  refine lpStep ?_
  simp -implicitDefEqProofs only [go_sem, simprocAttr, g47]
  refine callF [] true [.fo (.int 2), .fo (.int 1)] [.ptr [.int 10], .ptr [.list f prt], .ptr [.int 7]] (t50 2 1 (by decide) (by decide)) ⟨rfl, rfl, trivial⟩ (by simp -implicitDefEqProofs only [go_sem, simprocAttr, g2, g3, g6, o2, o3, o6]) (.inr rfl) ?_
  have e3 : cmpI (rmd 1) (rmd 2) = 1 := by decide
  simp -implicitDefEqProofs only [go_sem, simprocAttr, e3]
  refine lpStep ?_
  simp -implicitDefEqProofs only [go_sem, simprocAttr]
  refine ⟨rfl, rfl, by simp -implicitDefEqProofs only [go_sem, simprocAttr], fun o ho => ?_⟩
  simp -implicitDefEqProofs only [go_sem, simprocAttr, ho]
theorem srt_ex (h : AH) : ∃ (lv : LV) (h' : AH), Srt h h' := ⟨.undef, h.set 47 (.list 3 1 false false [.int 1, .int 2, .int 0]), rfl, rfl, by simp -implicitDefEqProofs only [go_sem, simprocAttr], fun o ho => by simp -implicitDefEqProofs only [go_sem, simprocAttr, ho]⟩
theorem a67 {f : Bool} {h : AH} (p : Pre f h) (o47 : h.obj 47 = some (.list 3 1 false false [.int 0, .int 1, .int 2])) : AC Q 67 [.gl 47 1, .fv (.int 3), cmpC] h fun lv h' => Srt h h' := by
  refine ac_intro (nb := 2000) Go.Proofs.Try.func67 rfl (by kernel_rfl) mix (k67 2000) (Nat.le_of_ble_eq_true (by kernel_rfl)) ?_
  refine Abs.walk ?_
  unfold c67
  simp -implicitDefEqProofs only [go_sem, simprocAttr]
  refine lp (n := 2) (lpStep ?_)
  simp -implicitDefEqProofs only [go_sem, simprocAttr]
  refine callI (a76 p o47) (srt_ex h) ?_
  intro lv h' s
  simp -implicitDefEqProofs only [go_sem, simprocAttr, Kl_eq]
  refine lp (n := 1) (lpStep ?_)
  simp -implicitDefEqProofs only [go_sem, simprocAttr]
  exact s
theorem a49 {f : Bool} {h : AH} (p : Pre f h) (o47 : h.obj 47 = some (.list 3 1 false false [.int 0, .int 1, .int 2])) : AC Q 49 [.gl 47 1, cmpC] h fun lv h' => Srt h h' := by
  have g47 := p.g47
  refine ac_intro (nb := 3000) Go.Proofs.Try.func49 rfl (by kernel_rfl) mix (k49 3000) (Nat.le_of_ble_eq_true (by kernel_rfl)) ?_
  refine Abs.walk ?_
  unfold c49
  simp -implicitDefEqProofs only [go_sem, simprocAttr, g47, o47]
  refine callI (a67 p o47) (srt_ex h) ?_
  intro lv h' s
  simp -implicitDefEqProofs only [go_sem, simprocAttr, Kl_eq]
  exact s
structure SrtF (h h' : AH) : Prop where
  g : h'.gen = h.gen
  o : h'.obj 47 = some (.list 3 1 true false [.int 1, .int 2, .int 0])
  n : ∀ o, o ≠ 47 → h'.obj o = h.obj o
theorem srtF {h h1 : AH} (s : Srt h h1) : SrtF h (h1.frzObjs [47]) := by
  have k := frzObjs_obj [47] h1
  refine ⟨(frzObjs_gen [47] h1).1.trans s.g, ?_, fun o ho => ?_⟩
  · rw [k, s.o]; rfl
  · rw [k, if_neg (by simpa using ho)]; exact s.n o ho
def SrtF' (h : AH) (lv : LV) (h' : AH) : Prop := SrtF h h'
theorem t29 {f : Bool} : Fn Q 29 [.fo (.int 10), .fo (.list f prt)] (.tup [.fx (.list false [.int 1, .int 3, .int 6]), .fx (.int 0)]) := by
  have i1 : inB 0 100000 10 = true := rfl
  have i2 : inB 1 6 3 = true := rfl
  have i3 : inB 0 1000 1 = true := rfl
  have i4 : inB 0 1000 2 = true := rfl
  have i5 : inB 0 1000 4 = true := rfl
  refine fn_intro Go.Proofs.Try.func29 rfl (by kernel_rfl) mix (k29 0) (Nat.le_of_ble_eq_true (by kernel_rfl)) ?_
  refine Abs.walk ?_
  unfold c29
  simp -implicitDefEqProofs only [go_sem, simprocAttr, prt]
  refine lp (n := 4) (lpStep ?_)
  simp -implicitDefEqProofs only [go_sem, simprocAttr]
  refine lpStep ?_
  simp -implicitDefEqProofs only [go_sem, simprocAttr]
  refine lpStep ?_
  simp -implicitDefEqProofs only [go_sem, simprocAttr]
  refine lpStep ?_
  simp -implicitDefEqProofs only [go_sem, simprocAttr]
  refine callF [] true [.fo (.int 0), .fo (.int 100000), .fo (.list false [.int 10])] [] (t27 _ _ _ [10] rfl (by simp)) ⟨rfl, rfl, rfl, trivial⟩ rfl (.inr rfl) ?_
  simp -implicitDefEqProofs only [go_sem, simprocAttr, i1]
  refine callF [] true [.fo (.int 1), .fo (.int 6), .fo (.list false [.int 3])] [] (t27 _ _ _ [3] rfl (by simp)) ⟨rfl, rfl, rfl, trivial⟩ rfl (.inr rfl) ?_
  simp -implicitDefEqProofs only [go_sem, simprocAttr, i2]
  refine callF [] true [.fo (.int 0), .fo (.int 1000), .fo (.list f [.int 1, .int 2, .int 4])] [] (t27 _ _ _ [1, 2, 4] rfl (by simp)) ⟨rfl, rfl, rfl, trivial⟩ rfl (.inr rfl) ?_
  simp -implicitDefEqProofs only [go_sem, simprocAttr, i3, i4, i5]
  refine W_opsD _ _ _ (Vs [[], [], [44], [], [], [47], [], [], [], []]) ?_ ?_
  · decide
  simp -implicitDefEqProofs only [go_sem, simprocAttr, FV.ofCells, List.replicate]
  refine lp (n := 4) (lpStep ?_)
  simp -implicitDefEqProofs only [go_sem, simprocAttr]
  refine sto_elem (by rfl) (by rfl) (by rfl) (by simp -implicitDefEqProofs only [go_sem, simprocAttr]; rfl) (by rfl) (by decide) ?_
  simp -implicitDefEqProofs only [go_sem, simprocAttr, FV.withCells]
  refine sto_elem (by rfl) (by rfl) (by rfl) (by simp -implicitDefEqProofs only [go_sem, simprocAttr]; rfl) (by rfl) (by decide) ?_
  simp -implicitDefEqProofs only [go_sem, simprocAttr, FV.withCells]
  refine lpStep ?_
  simp -implicitDefEqProofs only [go_sem, simprocAttr]
  refine sto_elem (by rfl) (by rfl) (by rfl) (by simp -implicitDefEqProofs only [go_sem, simprocAttr]; rfl) (by rfl) (by decide) ?_
  simp -implicitDefEqProofs only [go_sem, simprocAttr, FV.withCells]
  refine sto_elem (by rfl) (by rfl) (by rfl) (by simp -implicitDefEqProofs only [go_sem, simprocAttr]; rfl) (by rfl) (by decide) ?_
  simp -implicitDefEqProofs only [go_sem, simprocAttr, FV.withCells]
  refine lpStep ?_
  simp -implicitDefEqProofs only [go_sem, simprocAttr]
  refine sto_elem (by rfl) (by rfl) (by rfl) (by simp -implicitDefEqProofs only [go_sem, simprocAttr]; rfl) (by rfl) (by decide) ?_
  simp -implicitDefEqProofs only [go_sem, simprocAttr, FV.withCells]
  refine sto_elem (by rfl) (by rfl) (by rfl) (by simp -implicitDefEqProofs only [go_sem, simprocAttr]; rfl) (by rfl) (by decide) ?_
  simp -implicitDefEqProofs only [go_sem, simprocAttr, FV.withCells]
  refine lpStep ?_
  simp -implicitDefEqProofs only [go_sem, simprocAttr]
  refine callI (K := SrtF' _) ((a49 (f := f) ⟨by simp -implicitDefEqProofs only [go_sem, simprocAttr], by simp -implicitDefEqProofs only [go_sem, simprocAttr], by simp -implicitDefEqProofs only [go_sem, simprocAttr], by simp -implicitDefEqProofs only [go_sem, simprocAttr], by simp -implicitDefEqProofs only [go_sem, simprocAttr], by simp -implicitDefEqProofs only [go_sem, simprocAttr, prt], by simp -implicitDefEqProofs only [go_sem, simprocAttr]⟩ (by simp -implicitDefEqProofs only [go_sem, simprocAttr])).frz [47] fun lv h' s => srtF s) (let ⟨lv, h', s⟩ := srt_ex _; ⟨lv, _, srtF s⟩) ?_
  rintro lv h' ⟨sg, so, sn⟩
  have n2 := sn 2 (by decide)
  have n3 := sn 3 (by decide)
  have n6 := sn 6 (by decide)
  have n44 := sn 44 (by decide)
  simp -implicitDefEqProofs only [go_sem, simprocAttr] at n2 n3 n6 n44
  simp -implicitDefEqProofs only [go_sem, simprocAttr, Kl_eq, sg, so, n2, n3, n6, n44, true_or, or_true]
  refine lp (n := 3) (lpStep ?_)
  simp -implicitDefEqProofs only [go_sem, simprocAttr, sg, n44]
  refine sto_elem (by rfl) (by rfl) (by rfl) (by simp -implicitDefEqProofs only [go_sem, simprocAttr, sg, n44]; rfl) (by rfl) (by decide) ?_
  simp -implicitDefEqProofs only [go_sem, simprocAttr, FV.withCells]
  refine lpStep ?_
  simp -implicitDefEqProofs only [go_sem, simprocAttr, sg, n44]
  refine sto_elem (by rfl) (by rfl) (by rfl) (by simp -implicitDefEqProofs only [go_sem, simprocAttr, sg, n44]; rfl) (by rfl) (by decide) ?_
  simp -implicitDefEqProofs only [go_sem, simprocAttr, FV.withCells]
  refine lpStep ?_
  simp -implicitDefEqProofs only [go_sem, simprocAttr]
  refine ret_tup (fun _ => true) ?_ (by simp [ownNames])
  simp -implicitDefEqProofs only [go_sem, simprocAttr, sg]
end S12

