/- A part of the proof: X04g. -/
import Derived.Test.YtncbkgbdpaibmaaX04f
set_option linter.unusedVariables false
set_option linter.unusedSimpArgs false
set_option maxRecDepth 20000
namespace S04
open Go Abs
theorem errG_1 (c : Cs) (w : List Int) : errG c w 1 = errO c [w] := by
  unfold errG
  by_cases h : errO c [w] = 0
  · rw [h, show inB 1 400 1 = true by decide]; rfl
  · rw [if_pos h]
theorem wdF_zero {r : Int} (h : r ≤ 0) : wdF r = 0 := by unfold wdF; rw [if_neg (by omega)]
theorem wdF_pos {r : Int} (h : 1 ≤ r) : wdF r = min 30 r ∧ (wdF r == 0) = false := by
  unfold wdF
  rw [if_pos h]
  refine ⟨rfl, ?_⟩
  simp; omega
theorem t5_3 {c : Cs} {sw sp s : FV} {w : List Int} {a n : Int} (v : CV c sw sp) (hs : lsOf s = some (ints w)) (hl : w.length ≤ 9223372036854775807) (hL : largeF c [w] = false) (e1 : errO c [w] = 0) (e3 : inB 1 400 n = false) :
    Fn Q 5 [.fo (c.fv sw sp), .fo s, .fo (.agg [.int a, .int n])] (.one (.fx (.bool true))) := by
  have o1 := ls_one v.w
  have o2 := ls_one v.p
  have f3 := ls_cells hs
  have p3 := ls_fone hs
  have c16 := t16 v (Lists_one hs hl) (by simp)
  obtain ⟨lW, lP, _, lw⟩ := large_no hL
  have lw1 := lw w (by simp)
  have c18 := t18 v (by omega) (by omega)
  have v' : CV c (swC c) (spC c) := ⟨rfl, rfl, v.wl, v.pl⟩
  have hs' : lsOf (.list false (ints w)) = some (ints w) := rfl
  have c23 := t23 v' v (by omega)
  have c24w := t24s hs' hs (by omega)
  have c31 := t31 (n := n) v (by omega) (by omega) hs (by omega)
  have c31b := t31 (n := 1) v (by omega) (by omega) hs (by omega)
  have c33 := t33 (n := n) v' hs' hl
  have c34 := t34 (at' := a) (n := n) v' hs' hl
  have wl1 : IntKind.i64.wrap ((w.length : Int) - 1) = (w.length : Int) - 1 := wr _ (by omega) (by omega)
  have eGb := errG_1 c w
  rw [eGb] at c31b
  rw [e1] at c31b
  obtain ⟨ok, hw⟩ := errO_ok e1
  obtain ⟨q1, q2, q3⟩ := hw w (by simp)
  have wv : WV c s w := ⟨hs, lw1, q3⟩
  have eG : errG c w n = 3 := by simp [errG, e1, e3]
  have eF : errF c w n = 3 := by simp [errF, eG]
  rw [eG] at c31
  rw [eF] at c33
  cases e7 : inB 0 ((w.length : Int) - 1) a
  · have eP : errP c w a n = 7 := by simp [errP, e1, e7]
    rw [eP] at c34
    refine S04.w5 ?_
    dsimp only [c5, sop, gop, nop, qmv, qsg, qex, qld, qcl, qln, qix, qbo, qt, qi]
    simp -implicitDefEqProofs only [go_sem, simprocAttr, o1, o2, f3, p3]
    refine call0 [22] false c16 (by simp -implicitDefEqProofs only [go_sem, simprocAttr]) (.inl rfl) ?_
    simp -implicitDefEqProofs only [go_sem, simprocAttr, hL]
    refine W_opsD _ _ _ (Vs [[], [], [27], [], [27], [], [], [], [], [7], [7], [], [], []]) ?_ ?_
    · decide
    simp -implicitDefEqProofs only [go_sem, simprocAttr, o1, o2]
    refine callD [] false [.fo (c.fv sw sp)] [] c18 ⟨rfl, trivial⟩ rfl (.inl rfl) ?_
    simp -implicitDefEqProofs only [go_sem, simprocAttr]
    refine app_cp (by simp -implicitDefEqProofs only [go_sem, simprocAttr] <;> rfl) idx_22 hs (fun x hx => (ints_elem w x hx).1) (by simp -implicitDefEqProofs only [go_sem, simprocAttr]) (by simp [byt_3, ints]; omega) (by simp [maxLen, ints]; omega) ?_
    intro g1
    simp -implicitDefEqProofs only [go_sem, simprocAttr, swC, spC]
    refine call0 [27] false c33 (by simp -implicitDefEqProofs only [go_sem, simprocAttr, lstN]) (.inl rfl) ?_
    simp -implicitDefEqProofs only [go_sem, simprocAttr]
    refine call0 [] false c34 (by simp -implicitDefEqProofs only [go_sem, simprocAttr]) (.inl rfl) ?_
    simp -implicitDefEqProofs only [go_sem, simprocAttr, o1, o2]
    refine call1 [] false (c23) ?_
    simp -implicitDefEqProofs only [go_sem, simprocAttr]
    refine call0 [] true c24w (by simp -implicitDefEqProofs only [go_sem, simprocAttr]) (.inr rfl) ?_
    simp -implicitDefEqProofs only [go_sem, simprocAttr, o1, o2]
    refine call1 [] false (c31) ?_
    simp -implicitDefEqProofs only [go_sem, simprocAttr, o1, o2]
    refine call1 [] false (c31b) ?_
    simp -implicitDefEqProofs only [go_sem, simprocAttr, lenV_ls hs, ints_length, wl1]
    refine call1 [] false (t36 a 0 ((w.length : Int) - 1)) ?_
    simp -implicitDefEqProofs only [go_sem, simprocAttr, e7]
    refine call1 [] false (t17) ?_
    simp -implicitDefEqProofs only [go_sem, simprocAttr]
    exact ret_fv
  · have eP : errP c w a n = 3 := by simp [errP, e1, e7, e3]
    rw [eP] at c34
    refine S04.w5 ?_
    dsimp only [c5, sop, gop, nop, qmv, qsg, qex, qld, qcl, qln, qix, qbo, qt, qi]
    simp -implicitDefEqProofs only [go_sem, simprocAttr, o1, o2, f3, p3]
    refine call0 [22] false c16 (by simp -implicitDefEqProofs only [go_sem, simprocAttr]) (.inl rfl) ?_
    simp -implicitDefEqProofs only [go_sem, simprocAttr, hL]
    refine W_opsD _ _ _ (Vs [[], [], [27], [], [27], [], [], [], [], [7], [7], [], [], []]) ?_ ?_
    · decide
    simp -implicitDefEqProofs only [go_sem, simprocAttr, o1, o2]
    refine callD [] false [.fo (c.fv sw sp)] [] c18 ⟨rfl, trivial⟩ rfl (.inl rfl) ?_
    simp -implicitDefEqProofs only [go_sem, simprocAttr]
    refine app_cp (by simp -implicitDefEqProofs only [go_sem, simprocAttr] <;> rfl) idx_22 hs (fun x hx => (ints_elem w x hx).1) (by simp -implicitDefEqProofs only [go_sem, simprocAttr]) (by simp [byt_3, ints]; omega) (by simp [maxLen, ints]; omega) ?_
    intro g1
    simp -implicitDefEqProofs only [go_sem, simprocAttr, swC, spC]
    refine call0 [27] false c33 (by simp -implicitDefEqProofs only [go_sem, simprocAttr, lstN]) (.inl rfl) ?_
    simp -implicitDefEqProofs only [go_sem, simprocAttr]
    refine call0 [] false c34 (by simp -implicitDefEqProofs only [go_sem, simprocAttr]) (.inl rfl) ?_
    simp -implicitDefEqProofs only [go_sem, simprocAttr, o1, o2]
    refine call1 [] false (c23) ?_
    simp -implicitDefEqProofs only [go_sem, simprocAttr]
    refine call0 [] true c24w (by simp -implicitDefEqProofs only [go_sem, simprocAttr]) (.inr rfl) ?_
    simp -implicitDefEqProofs only [go_sem, simprocAttr, o1, o2]
    refine call1 [] false (c31) ?_
    simp -implicitDefEqProofs only [go_sem, simprocAttr, o1, o2]
    refine call1 [] false (c31b) ?_
    simp -implicitDefEqProofs only [go_sem, simprocAttr, lenV_ls hs, ints_length, wl1]
    refine call1 [] false (t36 a 0 ((w.length : Int) - 1)) ?_
    simp -implicitDefEqProofs only [go_sem, simprocAttr, e7]
    refine call1 [] false (t36 n 1 400) ?_
    simp -implicitDefEqProofs only [go_sem, simprocAttr, e3]
    refine call1 [] false (t17) ?_
    simp -implicitDefEqProofs only [go_sem, simprocAttr]
    exact ret_fv
theorem t5_n {c : Cs} {sw sp s : FV} {w : List Int} {a n : Int} (v : CV c sw sp) (hs : lsOf s = some (ints w)) (hl : w.length ≤ 9223372036854775807) (hL : largeF c [w] = false) (e1 : errO c [w] = 0) (e3 : inB 1 400 n = true) (hf : c.lf w n = none) :
    Fn Q 5 [.fo (c.fv sw sp), .fo s, .fo (.agg [.int a, .int n])] (.one (.fx (.bool true))) := by
  have o1 := ls_one v.w
  have o2 := ls_one v.p
  have f3 := ls_cells hs
  have p3 := ls_fone hs
  have c16 := t16 v (Lists_one hs hl) (by simp)
  obtain ⟨lW, lP, _, lw⟩ := large_no hL
  have lw1 := lw w (by simp)
  have c18 := t18 v (by omega) (by omega)
  have v' : CV c (swC c) (spC c) := ⟨rfl, rfl, v.wl, v.pl⟩
  have hs' : lsOf (.list false (ints w)) = some (ints w) := rfl
  have c23 := t23 v' v (by omega)
  have c24w := t24s hs' hs (by omega)
  have c31 := t31 (n := n) v (by omega) (by omega) hs (by omega)
  have c31b := t31 (n := 1) v (by omega) (by omega) hs (by omega)
  have c33 := t33 (n := n) v' hs' hl
  have c34 := t34 (at' := a) (n := n) v' hs' hl
  have wl1 : IntKind.i64.wrap ((w.length : Int) - 1) = (w.length : Int) - 1 := wr _ (by omega) (by omega)
  have eGb := errG_1 c w
  rw [eGb] at c31b
  rw [e1] at c31b
  obtain ⟨ok, hw⟩ := errO_ok e1
  obtain ⟨q1, q2, q3⟩ := hw w (by simp)
  have wv : WV c s w := ⟨hs, lw1, q3⟩
  obtain ⟨n0, n1⟩ := inB_iff.1 e3
  have eG : errG c w n = 0 := by simp [errG, e1, e3]
  rw [eG] at c31
  have c35 := t35 (n := n) v ok wv q1 q2
  have eF : errF c w n = 9 := by unfold errF; rw [if_neg (by simp [eG]), hf]
  rw [eF] at c33
  rw [hf] at c35
  cases e7 : inB 0 ((w.length : Int) - 1) a
  · have eP : errP c w a n = 7 := by simp [errP, e1, e7]
    rw [eP] at c34
    refine S04.w5 ?_
    dsimp only [c5, sop, gop, nop, qmv, qsg, qex, qld, qcl, qln, qix, qbo, qt, qi]
    simp -implicitDefEqProofs only [go_sem, simprocAttr, o1, o2, f3, p3]
    refine call0 [22] false c16 (by simp -implicitDefEqProofs only [go_sem, simprocAttr]) (.inl rfl) ?_
    simp -implicitDefEqProofs only [go_sem, simprocAttr, hL]
    refine W_opsD _ _ _ (Vs [[], [], [27], [], [27], [], [], [], [], [7], [7], [], [], []]) ?_ ?_
    · decide
    simp -implicitDefEqProofs only [go_sem, simprocAttr, o1, o2]
    refine callD [] false [.fo (c.fv sw sp)] [] c18 ⟨rfl, trivial⟩ rfl (.inl rfl) ?_
    simp -implicitDefEqProofs only [go_sem, simprocAttr]
    refine app_cp (by simp -implicitDefEqProofs only [go_sem, simprocAttr] <;> rfl) idx_22 hs (fun x hx => (ints_elem w x hx).1) (by simp -implicitDefEqProofs only [go_sem, simprocAttr]) (by simp [byt_3, ints]; omega) (by simp [maxLen, ints]; omega) ?_
    intro g1
    simp -implicitDefEqProofs only [go_sem, simprocAttr, swC, spC]
    refine call0 [27] false c33 (by simp -implicitDefEqProofs only [go_sem, simprocAttr, lstN]) (.inl rfl) ?_
    simp -implicitDefEqProofs only [go_sem, simprocAttr]
    refine call0 [] false c34 (by simp -implicitDefEqProofs only [go_sem, simprocAttr]) (.inl rfl) ?_
    simp -implicitDefEqProofs only [go_sem, simprocAttr, o1, o2]
    refine call1 [] false (c23) ?_
    simp -implicitDefEqProofs only [go_sem, simprocAttr]
    refine call0 [] true c24w (by simp -implicitDefEqProofs only [go_sem, simprocAttr]) (.inr rfl) ?_
    simp -implicitDefEqProofs only [go_sem, simprocAttr, o1, o2]
    refine call1 [] false (c31) ?_
    simp -implicitDefEqProofs only [go_sem, simprocAttr, o1, o2]
    refine call1 [] false (c35) ?_
    simp -implicitDefEqProofs only [go_sem, simprocAttr, rlV, Option.isSome, o1, o2]
    refine call1 [] false (c31b) ?_
    simp -implicitDefEqProofs only [go_sem, simprocAttr, lenV_ls hs, ints_length, wl1]
    refine call1 [] false (t36 a 0 ((w.length : Int) - 1)) ?_
    simp -implicitDefEqProofs only [go_sem, simprocAttr, e7]
    refine call1 [] false (t17) ?_
    simp -implicitDefEqProofs only [go_sem, simprocAttr]
    exact ret_fv
  · obtain ⟨a0, a1⟩ := inB_iff.1 e7
    have c37 := t37 v ok wv a0 (by omega) (by omega) n1
    by_cases e8 : n ≤ c.side w a
    · have eP : errP c w a n = 8 := by simp [errP, e1, e7, e3, e8]
      rw [eP] at c34
      rw [wdF_zero (by omega)] at c37
      refine S04.w5 ?_
      dsimp only [c5, sop, gop, nop, qmv, qsg, qex, qld, qcl, qln, qix, qbo, qt, qi]
      simp -implicitDefEqProofs only [go_sem, simprocAttr, o1, o2, f3, p3]
      refine call0 [22] false c16 (by simp -implicitDefEqProofs only [go_sem, simprocAttr]) (.inl rfl) ?_
      simp -implicitDefEqProofs only [go_sem, simprocAttr, hL]
      refine W_opsD _ _ _ (Vs [[], [], [27], [], [27], [], [], [], [], [7], [7], [], [], []]) ?_ ?_
      · decide
      simp -implicitDefEqProofs only [go_sem, simprocAttr, o1, o2]
      refine callD [] false [.fo (c.fv sw sp)] [] c18 ⟨rfl, trivial⟩ rfl (.inl rfl) ?_
      simp -implicitDefEqProofs only [go_sem, simprocAttr]
      refine app_cp (by simp -implicitDefEqProofs only [go_sem, simprocAttr] <;> rfl) idx_22 hs (fun x hx => (ints_elem w x hx).1) (by simp -implicitDefEqProofs only [go_sem, simprocAttr]) (by simp [byt_3, ints]; omega) (by simp [maxLen, ints]; omega) ?_
      intro g1
      simp -implicitDefEqProofs only [go_sem, simprocAttr, swC, spC]
      refine call0 [27] false c33 (by simp -implicitDefEqProofs only [go_sem, simprocAttr, lstN]) (.inl rfl) ?_
      simp -implicitDefEqProofs only [go_sem, simprocAttr]
      refine call0 [] false c34 (by simp -implicitDefEqProofs only [go_sem, simprocAttr]) (.inl rfl) ?_
      simp -implicitDefEqProofs only [go_sem, simprocAttr, o1, o2]
      refine call1 [] false (c23) ?_
      simp -implicitDefEqProofs only [go_sem, simprocAttr]
      refine call0 [] true c24w (by simp -implicitDefEqProofs only [go_sem, simprocAttr]) (.inr rfl) ?_
      simp -implicitDefEqProofs only [go_sem, simprocAttr, o1, o2]
      refine call1 [] false (c31) ?_
      simp -implicitDefEqProofs only [go_sem, simprocAttr, o1, o2]
      refine call1 [] false (c35) ?_
      simp -implicitDefEqProofs only [go_sem, simprocAttr, rlV, Option.isSome, o1, o2]
      refine call1 [] false (c31b) ?_
      simp -implicitDefEqProofs only [go_sem, simprocAttr, lenV_ls hs, ints_length, wl1]
      refine call1 [] false (t36 a 0 ((w.length : Int) - 1)) ?_
      simp -implicitDefEqProofs only [go_sem, simprocAttr, e7]
      refine call1 [] false (t36 n 1 400) ?_
      simp -implicitDefEqProofs only [go_sem, simprocAttr, e3, o1, o2]
      refine call1 [] false (c37) ?_
      simp -implicitDefEqProofs only [go_sem, simprocAttr]
      refine call1 [] false (t17) ?_
      simp -implicitDefEqProofs only [go_sem, simprocAttr]
      exact ret_fv
    · have eP : errP c w a n = 0 := by simp [errP, e1, e7, e3, e8]
      obtain ⟨z1, z2⟩ := wdF_pos (r := n - c.side w a) (by omega)
      rw [eP, if_pos rfl, ← z1] at c34
      have z3 : (wdF (n - c.side w a) == wdF (n - c.side w a)) = true := by simp
      refine S04.w5 ?_
      dsimp only [c5, sop, gop, nop, qmv, qsg, qex, qld, qcl, qln, qix, qbo, qt, qi]
      simp -implicitDefEqProofs only [go_sem, simprocAttr, o1, o2, f3, p3]
      refine call0 [22] false c16 (by simp -implicitDefEqProofs only [go_sem, simprocAttr]) (.inl rfl) ?_
      simp -implicitDefEqProofs only [go_sem, simprocAttr, hL]
      refine W_opsD _ _ _ (Vs [[], [], [27], [], [27], [], [], [], [], [7], [7], [], [], []]) ?_ ?_
      · decide
      simp -implicitDefEqProofs only [go_sem, simprocAttr, o1, o2]
      refine callD [] false [.fo (c.fv sw sp)] [] c18 ⟨rfl, trivial⟩ rfl (.inl rfl) ?_
      simp -implicitDefEqProofs only [go_sem, simprocAttr]
      refine app_cp (by simp -implicitDefEqProofs only [go_sem, simprocAttr] <;> rfl) idx_22 hs (fun x hx => (ints_elem w x hx).1) (by simp -implicitDefEqProofs only [go_sem, simprocAttr]) (by simp [byt_3, ints]; omega) (by simp [maxLen, ints]; omega) ?_
      intro g1
      simp -implicitDefEqProofs only [go_sem, simprocAttr, swC, spC]
      refine call0 [27] false c33 (by simp -implicitDefEqProofs only [go_sem, simprocAttr, lstN]) (.inl rfl) ?_
      simp -implicitDefEqProofs only [go_sem, simprocAttr]
      refine call0 [] false c34 (by simp -implicitDefEqProofs only [go_sem, simprocAttr]) (.inl rfl) ?_
      simp -implicitDefEqProofs only [go_sem, simprocAttr, o1, o2]
      refine call1 [] false (c23) ?_
      simp -implicitDefEqProofs only [go_sem, simprocAttr]
      refine call0 [] true c24w (by simp -implicitDefEqProofs only [go_sem, simprocAttr]) (.inr rfl) ?_
      simp -implicitDefEqProofs only [go_sem, simprocAttr, o1, o2]
      refine call1 [] false (c31) ?_
      simp -implicitDefEqProofs only [go_sem, simprocAttr, o1, o2]
      refine call1 [] false (c35) ?_
      simp -implicitDefEqProofs only [go_sem, simprocAttr, rlV, Option.isSome, o1, o2]
      refine call1 [] false (c31b) ?_
      simp -implicitDefEqProofs only [go_sem, simprocAttr, lenV_ls hs, ints_length, wl1]
      refine call1 [] false (t36 a 0 ((w.length : Int) - 1)) ?_
      simp -implicitDefEqProofs only [go_sem, simprocAttr, e7]
      refine call1 [] false (t36 n 1 400) ?_
      simp -implicitDefEqProofs only [go_sem, simprocAttr, e3, o1, o2]
      refine call1 [] false (c37) ?_
      simp -implicitDefEqProofs only [go_sem, simprocAttr, z2, z3]
      refine call1 [] false (t17) ?_
      simp -implicitDefEqProofs only [go_sem, simprocAttr]
      exact ret_fv
theorem t5_z {c : Cs} {sw sp s : FV} {w : List Int} {a n : Int} (v : CV c sw sp) (hs : lsOf s = some (ints w)) (hl : w.length ≤ 9223372036854775807) (hL : largeF c [w] = false) (e1 : errO c [w] = 0) (e3 : inB 1 400 n = true) (hf : c.lf w n = some []) :
    Fn Q 5 [.fo (c.fv sw sp), .fo s, .fo (.agg [.int a, .int n])] (.one (.fx (.bool true))) := by
  have o1 := ls_one v.w
  have o2 := ls_one v.p
  have f3 := ls_cells hs
  have p3 := ls_fone hs
  have c16 := t16 v (Lists_one hs hl) (by simp)
  obtain ⟨lW, lP, _, lw⟩ := large_no hL
  have lw1 := lw w (by simp)
  have c18 := t18 v (by omega) (by omega)
  have v' : CV c (swC c) (spC c) := ⟨rfl, rfl, v.wl, v.pl⟩
  have hs' : lsOf (.list false (ints w)) = some (ints w) := rfl
  have c23 := t23 v' v (by omega)
  have c24w := t24s hs' hs (by omega)
  have c31 := t31 (n := n) v (by omega) (by omega) hs (by omega)
  have c31b := t31 (n := 1) v (by omega) (by omega) hs (by omega)
  have c33 := t33 (n := n) v' hs' hl
  have c34 := t34 (at' := a) (n := n) v' hs' hl
  have wl1 : IntKind.i64.wrap ((w.length : Int) - 1) = (w.length : Int) - 1 := wr _ (by omega) (by omega)
  have eGb := errG_1 c w
  rw [eGb] at c31b
  rw [e1] at c31b
  obtain ⟨ok, hw⟩ := errO_ok e1
  obtain ⟨q1, q2, q3⟩ := hw w (by simp)
  have wv : WV c s w := ⟨hs, lw1, q3⟩
  obtain ⟨n0, n1⟩ := inB_iff.1 e3
  have eG : errG c w n = 0 := by simp [errG, e1, e3]
  rw [eG] at c31
  have c35 := t35 (n := n) v ok wv q1 q2
  have eF : errF c w n = 6 := by unfold errF; rw [if_neg (by simp [eG]), hf]
  rw [eF] at c33
  rw [hf] at c35
  cases e7 : inB 0 ((w.length : Int) - 1) a
  · have eP : errP c w a n = 7 := by simp [errP, e1, e7]
    rw [eP] at c34
    refine S04.w5 ?_
    dsimp only [c5, sop, gop, nop, qmv, qsg, qex, qld, qcl, qln, qix, qbo, qt, qi]
    simp -implicitDefEqProofs only [go_sem, simprocAttr, o1, o2, f3, p3]
    refine call0 [22] false c16 (by simp -implicitDefEqProofs only [go_sem, simprocAttr]) (.inl rfl) ?_
    simp -implicitDefEqProofs only [go_sem, simprocAttr, hL]
    refine W_opsD _ _ _ (Vs [[], [], [27], [], [27], [], [], [], [], [7], [7], [], [], []]) ?_ ?_
    · decide
    simp -implicitDefEqProofs only [go_sem, simprocAttr, o1, o2]
    refine callD [] false [.fo (c.fv sw sp)] [] c18 ⟨rfl, trivial⟩ rfl (.inl rfl) ?_
    simp -implicitDefEqProofs only [go_sem, simprocAttr]
    refine app_cp (by simp -implicitDefEqProofs only [go_sem, simprocAttr] <;> rfl) idx_22 hs (fun x hx => (ints_elem w x hx).1) (by simp -implicitDefEqProofs only [go_sem, simprocAttr]) (by simp [byt_3, ints]; omega) (by simp [maxLen, ints]; omega) ?_
    intro g1
    simp -implicitDefEqProofs only [go_sem, simprocAttr, swC, spC]
    refine call0 [27] false c33 (by simp -implicitDefEqProofs only [go_sem, simprocAttr, lstN]) (.inl rfl) ?_
    simp -implicitDefEqProofs only [go_sem, simprocAttr]
    refine call0 [] false c34 (by simp -implicitDefEqProofs only [go_sem, simprocAttr]) (.inl rfl) ?_
    simp -implicitDefEqProofs only [go_sem, simprocAttr, o1, o2]
    refine call1 [] false (c23) ?_
    simp -implicitDefEqProofs only [go_sem, simprocAttr]
    refine call0 [] true c24w (by simp -implicitDefEqProofs only [go_sem, simprocAttr]) (.inr rfl) ?_
    simp -implicitDefEqProofs only [go_sem, simprocAttr, o1, o2]
    refine call1 [] false (c31) ?_
    simp -implicitDefEqProofs only [go_sem, simprocAttr, o1, o2]
    refine call1 [] false (c35) ?_
    simp -implicitDefEqProofs only [go_sem, simprocAttr, rlV, Option.isSome, o1, o2]
    refine call1 [] false (c31b) ?_
    simp -implicitDefEqProofs only [go_sem, simprocAttr, lenV_ls hs, ints_length, wl1]
    refine call1 [] false (t36 a 0 ((w.length : Int) - 1)) ?_
    simp -implicitDefEqProofs only [go_sem, simprocAttr, e7]
    refine call1 [] false (t17) ?_
    simp -implicitDefEqProofs only [go_sem, simprocAttr]
    exact ret_fv
  · obtain ⟨a0, a1⟩ := inB_iff.1 e7
    have c37 := t37 v ok wv a0 (by omega) (by omega) n1
    by_cases e8 : n ≤ c.side w a
    · have eP : errP c w a n = 8 := by simp [errP, e1, e7, e3, e8]
      rw [eP] at c34
      rw [wdF_zero (by omega)] at c37
      refine S04.w5 ?_
      dsimp only [c5, sop, gop, nop, qmv, qsg, qex, qld, qcl, qln, qix, qbo, qt, qi]
      simp -implicitDefEqProofs only [go_sem, simprocAttr, o1, o2, f3, p3]
      refine call0 [22] false c16 (by simp -implicitDefEqProofs only [go_sem, simprocAttr]) (.inl rfl) ?_
      simp -implicitDefEqProofs only [go_sem, simprocAttr, hL]
      refine W_opsD _ _ _ (Vs [[], [], [27], [], [27], [], [], [], [], [7], [7], [], [], []]) ?_ ?_
      · decide
      simp -implicitDefEqProofs only [go_sem, simprocAttr, o1, o2]
      refine callD [] false [.fo (c.fv sw sp)] [] c18 ⟨rfl, trivial⟩ rfl (.inl rfl) ?_
      simp -implicitDefEqProofs only [go_sem, simprocAttr]
      refine app_cp (by simp -implicitDefEqProofs only [go_sem, simprocAttr] <;> rfl) idx_22 hs (fun x hx => (ints_elem w x hx).1) (by simp -implicitDefEqProofs only [go_sem, simprocAttr]) (by simp [byt_3, ints]; omega) (by simp [maxLen, ints]; omega) ?_
      intro g1
      simp -implicitDefEqProofs only [go_sem, simprocAttr, swC, spC]
      refine call0 [27] false c33 (by simp -implicitDefEqProofs only [go_sem, simprocAttr, lstN]) (.inl rfl) ?_
      simp -implicitDefEqProofs only [go_sem, simprocAttr]
      refine call0 [] false c34 (by simp -implicitDefEqProofs only [go_sem, simprocAttr]) (.inl rfl) ?_
      simp -implicitDefEqProofs only [go_sem, simprocAttr, o1, o2]
      refine call1 [] false (c23) ?_
      simp -implicitDefEqProofs only [go_sem, simprocAttr]
      refine call0 [] true c24w (by simp -implicitDefEqProofs only [go_sem, simprocAttr]) (.inr rfl) ?_
      simp -implicitDefEqProofs only [go_sem, simprocAttr, o1, o2]
      refine call1 [] false (c31) ?_
      simp -implicitDefEqProofs only [go_sem, simprocAttr, o1, o2]
      refine call1 [] false (c35) ?_
      simp -implicitDefEqProofs only [go_sem, simprocAttr, rlV, Option.isSome, o1, o2]
      refine call1 [] false (c31b) ?_
      simp -implicitDefEqProofs only [go_sem, simprocAttr, lenV_ls hs, ints_length, wl1]
      refine call1 [] false (t36 a 0 ((w.length : Int) - 1)) ?_
      simp -implicitDefEqProofs only [go_sem, simprocAttr, e7]
      refine call1 [] false (t36 n 1 400) ?_
      simp -implicitDefEqProofs only [go_sem, simprocAttr, e3, o1, o2]
      refine call1 [] false (c37) ?_
      simp -implicitDefEqProofs only [go_sem, simprocAttr]
      refine call1 [] false (t17) ?_
      simp -implicitDefEqProofs only [go_sem, simprocAttr]
      exact ret_fv
    · have eP : errP c w a n = 0 := by simp [errP, e1, e7, e3, e8]
      obtain ⟨z1, z2⟩ := wdF_pos (r := n - c.side w a) (by omega)
      rw [eP, if_pos rfl, ← z1] at c34
      have z3 : (wdF (n - c.side w a) == wdF (n - c.side w a)) = true := by simp
      refine S04.w5 ?_
      dsimp only [c5, sop, gop, nop, qmv, qsg, qex, qld, qcl, qln, qix, qbo, qt, qi]
      simp -implicitDefEqProofs only [go_sem, simprocAttr, o1, o2, f3, p3]
      refine call0 [22] false c16 (by simp -implicitDefEqProofs only [go_sem, simprocAttr]) (.inl rfl) ?_
      simp -implicitDefEqProofs only [go_sem, simprocAttr, hL]
      refine W_opsD _ _ _ (Vs [[], [], [27], [], [27], [], [], [], [], [7], [7], [], [], []]) ?_ ?_
      · decide
      simp -implicitDefEqProofs only [go_sem, simprocAttr, o1, o2]
      refine callD [] false [.fo (c.fv sw sp)] [] c18 ⟨rfl, trivial⟩ rfl (.inl rfl) ?_
      simp -implicitDefEqProofs only [go_sem, simprocAttr]
      refine app_cp (by simp -implicitDefEqProofs only [go_sem, simprocAttr] <;> rfl) idx_22 hs (fun x hx => (ints_elem w x hx).1) (by simp -implicitDefEqProofs only [go_sem, simprocAttr]) (by simp [byt_3, ints]; omega) (by simp [maxLen, ints]; omega) ?_
      intro g1
      simp -implicitDefEqProofs only [go_sem, simprocAttr, swC, spC]
      refine call0 [27] false c33 (by simp -implicitDefEqProofs only [go_sem, simprocAttr, lstN]) (.inl rfl) ?_
      simp -implicitDefEqProofs only [go_sem, simprocAttr]
      refine call0 [] false c34 (by simp -implicitDefEqProofs only [go_sem, simprocAttr]) (.inl rfl) ?_
      simp -implicitDefEqProofs only [go_sem, simprocAttr, o1, o2]
      refine call1 [] false (c23) ?_
      simp -implicitDefEqProofs only [go_sem, simprocAttr]
      refine call0 [] true c24w (by simp -implicitDefEqProofs only [go_sem, simprocAttr]) (.inr rfl) ?_
      simp -implicitDefEqProofs only [go_sem, simprocAttr, o1, o2]
      refine call1 [] false (c31) ?_
      simp -implicitDefEqProofs only [go_sem, simprocAttr, o1, o2]
      refine call1 [] false (c35) ?_
      simp -implicitDefEqProofs only [go_sem, simprocAttr, rlV, Option.isSome, o1, o2]
      refine call1 [] false (c31b) ?_
      simp -implicitDefEqProofs only [go_sem, simprocAttr, lenV_ls hs, ints_length, wl1]
      refine call1 [] false (t36 a 0 ((w.length : Int) - 1)) ?_
      simp -implicitDefEqProofs only [go_sem, simprocAttr, e7]
      refine call1 [] false (t36 n 1 400) ?_
      simp -implicitDefEqProofs only [go_sem, simprocAttr, e3, o1, o2]
      refine call1 [] false (c37) ?_
      simp -implicitDefEqProofs only [go_sem, simprocAttr, z2, z3]
      refine call1 [] false (t17) ?_
      simp -implicitDefEqProofs only [go_sem, simprocAttr]
      exact ret_fv
theorem t5_s {c : Cs} {sw sp s : FV} {w : List Int} {a n : Int} (v : CV c sw sp) (hs : lsOf s = some (ints w)) (hl : w.length ≤ 9223372036854775807) (hL : largeF c [w] = false) {x : Int} {l : List Int} (e1 : errO c [w] = 0) (e3 : inB 1 400 n = true) (hf : c.lf w n = some (x :: l)) :
    Fn Q 5 [.fo (c.fv sw sp), .fo s, .fo (.agg [.int a, .int n])] (.one (.fx (.bool true))) := by
  have o1 := ls_one v.w
  have o2 := ls_one v.p
  have f3 := ls_cells hs
  have p3 := ls_fone hs
  have c16 := t16 v (Lists_one hs hl) (by simp)
  obtain ⟨lW, lP, _, lw⟩ := large_no hL
  have lw1 := lw w (by simp)
  have c18 := t18 v (by omega) (by omega)
  have v' : CV c (swC c) (spC c) := ⟨rfl, rfl, v.wl, v.pl⟩
  have hs' : lsOf (.list false (ints w)) = some (ints w) := rfl
  have c23 := t23 v' v (by omega)
  have c24w := t24s hs' hs (by omega)
  have c31 := t31 (n := n) v (by omega) (by omega) hs (by omega)
  have c31b := t31 (n := 1) v (by omega) (by omega) hs (by omega)
  have c33 := t33 (n := n) v' hs' hl
  have c34 := t34 (at' := a) (n := n) v' hs' hl
  have wl1 : IntKind.i64.wrap ((w.length : Int) - 1) = (w.length : Int) - 1 := wr _ (by omega) (by omega)
  have eGb := errG_1 c w
  rw [eGb] at c31b
  rw [e1] at c31b
  obtain ⟨ok, hw⟩ := errO_ok e1
  obtain ⟨q1, q2, q3⟩ := hw w (by simp)
  have wv : WV c s w := ⟨hs, lw1, q3⟩
  obtain ⟨n0, n1⟩ := inB_iff.1 e3
  have eG : errG c w n = 0 := by simp [errG, e1, e3]
  rw [eG] at c31
  have c35 := t35 (n := n) v ok wv q1 q2
  have eF : errF c w n = 0 := by unfold errF; rw [if_neg (by simp [eG]), hf]
  rw [eF, if_pos rfl, hf] at c33
  rw [hf] at c35
  have hsub := fewF_SM w.length (c.goP w n)
  rw [show fewF w.length (c.goP w n) = some (x :: l) from hf] at hsub
  have hll := hsub.1.1.length_le
  rw [numF_len] at hll
  have c24l := t24s (sa := optN (some (x :: l))) (sb := .list false (ints (x :: l))) (a := x :: l) (lsOf_lstN _) rfl (by omega)
  have ne0 : (((l.length + 1 : Nat) : Int) == 0) = false := by simp; omega
  have xl : True := trivial
  cases e7 : inB 0 ((w.length : Int) - 1) a
  · have eP : errP c w a n = 7 := by simp [errP, e1, e7]
    rw [eP] at c34
    refine S04.w5 ?_
    dsimp only [c5, sop, gop, nop, qmv, qsg, qex, qld, qcl, qln, qix, qbo, qt, qi]
    simp -implicitDefEqProofs only [go_sem, simprocAttr, o1, o2, f3, p3]
    refine call0 [22] false c16 (by simp -implicitDefEqProofs only [go_sem, simprocAttr]) (.inl rfl) ?_
    simp -implicitDefEqProofs only [go_sem, simprocAttr, hL]
    refine W_opsD _ _ _ (Vs [[], [], [27], [], [27], [], [], [], [], [7], [7], [], [], []]) ?_ ?_
    · decide
    simp -implicitDefEqProofs only [go_sem, simprocAttr, o1, o2]
    refine callD [] false [.fo (c.fv sw sp)] [] c18 ⟨rfl, trivial⟩ rfl (.inl rfl) ?_
    simp -implicitDefEqProofs only [go_sem, simprocAttr]
    refine app_cp (by simp -implicitDefEqProofs only [go_sem, simprocAttr] <;> rfl) idx_22 hs (fun x hx => (ints_elem w x hx).1) (by simp -implicitDefEqProofs only [go_sem, simprocAttr]) (by simp [byt_3, ints]; omega) (by simp [maxLen, ints]; omega) ?_
    intro g1
    simp -implicitDefEqProofs only [go_sem, simprocAttr, swC, spC]
    refine call0 [27] false c33 (by simp -implicitDefEqProofs only [go_sem, simprocAttr, lstN]) (.inl rfl) ?_
    simp -implicitDefEqProofs only [go_sem, simprocAttr]
    refine call0 [] false c34 (by simp -implicitDefEqProofs only [go_sem, simprocAttr]) (.inl rfl) ?_
    simp -implicitDefEqProofs only [go_sem, simprocAttr, o1, o2]
    refine call1 [] false (c23) ?_
    simp -implicitDefEqProofs only [go_sem, simprocAttr]
    refine call0 [] true c24w (by simp -implicitDefEqProofs only [go_sem, simprocAttr]) (.inr rfl) ?_
    simp -implicitDefEqProofs only [go_sem, simprocAttr, o1, o2]
    refine call1 [] false (c31) ?_
    simp -implicitDefEqProofs only [go_sem, simprocAttr, o1, o2]
    refine call1 [] false (c35) ?_
    simp -implicitDefEqProofs only [go_sem, simprocAttr, rlV, Option.isSome, ints_length, xl, List.length_cons, ne0]
    refine call1 [] false (c24l) ?_
    simp -implicitDefEqProofs only [go_sem, simprocAttr, o1, o2]
    refine call1 [] false (c31b) ?_
    simp -implicitDefEqProofs only [go_sem, simprocAttr, lenV_ls hs, ints_length, wl1]
    refine call1 [] false (t36 a 0 ((w.length : Int) - 1)) ?_
    simp -implicitDefEqProofs only [go_sem, simprocAttr, e7]
    refine call1 [] false (t17) ?_
    simp -implicitDefEqProofs only [go_sem, simprocAttr]
    exact ret_fv
  · obtain ⟨a0, a1⟩ := inB_iff.1 e7
    have c37 := t37 v ok wv a0 (by omega) (by omega) n1
    by_cases e8 : n ≤ c.side w a
    · have eP : errP c w a n = 8 := by simp [errP, e1, e7, e3, e8]
      rw [eP] at c34
      rw [wdF_zero (by omega)] at c37
      refine S04.w5 ?_
      dsimp only [c5, sop, gop, nop, qmv, qsg, qex, qld, qcl, qln, qix, qbo, qt, qi]
      simp -implicitDefEqProofs only [go_sem, simprocAttr, o1, o2, f3, p3]
      refine call0 [22] false c16 (by simp -implicitDefEqProofs only [go_sem, simprocAttr]) (.inl rfl) ?_
      simp -implicitDefEqProofs only [go_sem, simprocAttr, hL]
      refine W_opsD _ _ _ (Vs [[], [], [27], [], [27], [], [], [], [], [7], [7], [], [], []]) ?_ ?_
      · decide
      simp -implicitDefEqProofs only [go_sem, simprocAttr, o1, o2]
      refine callD [] false [.fo (c.fv sw sp)] [] c18 ⟨rfl, trivial⟩ rfl (.inl rfl) ?_
      simp -implicitDefEqProofs only [go_sem, simprocAttr]
      refine app_cp (by simp -implicitDefEqProofs only [go_sem, simprocAttr] <;> rfl) idx_22 hs (fun x hx => (ints_elem w x hx).1) (by simp -implicitDefEqProofs only [go_sem, simprocAttr]) (by simp [byt_3, ints]; omega) (by simp [maxLen, ints]; omega) ?_
      intro g1
      simp -implicitDefEqProofs only [go_sem, simprocAttr, swC, spC]
      refine call0 [27] false c33 (by simp -implicitDefEqProofs only [go_sem, simprocAttr, lstN]) (.inl rfl) ?_
      simp -implicitDefEqProofs only [go_sem, simprocAttr]
      refine call0 [] false c34 (by simp -implicitDefEqProofs only [go_sem, simprocAttr]) (.inl rfl) ?_
      simp -implicitDefEqProofs only [go_sem, simprocAttr, o1, o2]
      refine call1 [] false (c23) ?_
      simp -implicitDefEqProofs only [go_sem, simprocAttr]
      refine call0 [] true c24w (by simp -implicitDefEqProofs only [go_sem, simprocAttr]) (.inr rfl) ?_
      simp -implicitDefEqProofs only [go_sem, simprocAttr, o1, o2]
      refine call1 [] false (c31) ?_
      simp -implicitDefEqProofs only [go_sem, simprocAttr, o1, o2]
      refine call1 [] false (c35) ?_
      simp -implicitDefEqProofs only [go_sem, simprocAttr, rlV, Option.isSome, ints_length, xl, List.length_cons, ne0]
      refine call1 [] false (c24l) ?_
      simp -implicitDefEqProofs only [go_sem, simprocAttr, o1, o2]
      refine call1 [] false (c31b) ?_
      simp -implicitDefEqProofs only [go_sem, simprocAttr, lenV_ls hs, ints_length, wl1]
      refine call1 [] false (t36 a 0 ((w.length : Int) - 1)) ?_
      simp -implicitDefEqProofs only [go_sem, simprocAttr, e7]
      refine call1 [] false (t36 n 1 400) ?_
      simp -implicitDefEqProofs only [go_sem, simprocAttr, e3, o1, o2]
      refine call1 [] false (c37) ?_
      simp -implicitDefEqProofs only [go_sem, simprocAttr]
      refine call1 [] false (t17) ?_
      simp -implicitDefEqProofs only [go_sem, simprocAttr]
      exact ret_fv
    · have eP : errP c w a n = 0 := by simp [errP, e1, e7, e3, e8]
      obtain ⟨z1, z2⟩ := wdF_pos (r := n - c.side w a) (by omega)
      rw [eP, if_pos rfl, ← z1] at c34
      have z3 : (wdF (n - c.side w a) == wdF (n - c.side w a)) = true := by simp
      refine S04.w5 ?_
      dsimp only [c5, sop, gop, nop, qmv, qsg, qex, qld, qcl, qln, qix, qbo, qt, qi]
      simp -implicitDefEqProofs only [go_sem, simprocAttr, o1, o2, f3, p3]
      refine call0 [22] false c16 (by simp -implicitDefEqProofs only [go_sem, simprocAttr]) (.inl rfl) ?_
      simp -implicitDefEqProofs only [go_sem, simprocAttr, hL]
      refine W_opsD _ _ _ (Vs [[], [], [27], [], [27], [], [], [], [], [7], [7], [], [], []]) ?_ ?_
      · decide
      simp -implicitDefEqProofs only [go_sem, simprocAttr, o1, o2]
      refine callD [] false [.fo (c.fv sw sp)] [] c18 ⟨rfl, trivial⟩ rfl (.inl rfl) ?_
      simp -implicitDefEqProofs only [go_sem, simprocAttr]
      refine app_cp (by simp -implicitDefEqProofs only [go_sem, simprocAttr] <;> rfl) idx_22 hs (fun x hx => (ints_elem w x hx).1) (by simp -implicitDefEqProofs only [go_sem, simprocAttr]) (by simp [byt_3, ints]; omega) (by simp [maxLen, ints]; omega) ?_
      intro g1
      simp -implicitDefEqProofs only [go_sem, simprocAttr, swC, spC]
      refine call0 [27] false c33 (by simp -implicitDefEqProofs only [go_sem, simprocAttr, lstN]) (.inl rfl) ?_
      simp -implicitDefEqProofs only [go_sem, simprocAttr]
      refine call0 [] false c34 (by simp -implicitDefEqProofs only [go_sem, simprocAttr]) (.inl rfl) ?_
      simp -implicitDefEqProofs only [go_sem, simprocAttr, o1, o2]
      refine call1 [] false (c23) ?_
      simp -implicitDefEqProofs only [go_sem, simprocAttr]
      refine call0 [] true c24w (by simp -implicitDefEqProofs only [go_sem, simprocAttr]) (.inr rfl) ?_
      simp -implicitDefEqProofs only [go_sem, simprocAttr, o1, o2]
      refine call1 [] false (c31) ?_
      simp -implicitDefEqProofs only [go_sem, simprocAttr, o1, o2]
      refine call1 [] false (c35) ?_
      simp -implicitDefEqProofs only [go_sem, simprocAttr, rlV, Option.isSome, ints_length, xl, List.length_cons, ne0]
      refine call1 [] false (c24l) ?_
      simp -implicitDefEqProofs only [go_sem, simprocAttr, o1, o2]
      refine call1 [] false (c31b) ?_
      simp -implicitDefEqProofs only [go_sem, simprocAttr, lenV_ls hs, ints_length, wl1]
      refine call1 [] false (t36 a 0 ((w.length : Int) - 1)) ?_
      simp -implicitDefEqProofs only [go_sem, simprocAttr, e7]
      refine call1 [] false (t36 n 1 400) ?_
      simp -implicitDefEqProofs only [go_sem, simprocAttr, e3, o1, o2]
      refine call1 [] false (c37) ?_
      simp -implicitDefEqProofs only [go_sem, simprocAttr, z2, z3]
      refine call1 [] false (t17) ?_
      simp -implicitDefEqProofs only [go_sem, simprocAttr]
      exact ret_fv
theorem t5_O {c : Cs} {sw sp s : FV} {w : List Int} {a n : Int} (v : CV c sw sp) (hs : lsOf s = some (ints w)) (hl : w.length ≤ 9223372036854775807) (hL : largeF c [w] = false) (e1 : ¬ errO c [w] = 0) :
    Fn Q 5 [.fo (c.fv sw sp), .fo s, .fo (.agg [.int a, .int n])] (.one (.fx (.bool true))) := by
  have o1 := ls_one v.w
  have o2 := ls_one v.p
  have f3 := ls_cells hs
  have p3 := ls_fone hs
  have c16 := t16 v (Lists_one hs hl) (by simp)
  obtain ⟨lW, lP, _, lw⟩ := large_no hL
  have lw1 := lw w (by simp)
  have c18 := t18 v (by omega) (by omega)
  have v' : CV c (swC c) (spC c) := ⟨rfl, rfl, v.wl, v.pl⟩
  have hs' : lsOf (.list false (ints w)) = some (ints w) := rfl
  have c23 := t23 v' v (by omega)
  have c24w := t24s hs' hs (by omega)
  have c31 := t31 (n := n) v (by omega) (by omega) hs (by omega)
  have c31b := t31 (n := 1) v (by omega) (by omega) hs (by omega)
  have c33 := t33 (n := n) v' hs' hl
  have c34 := t34 (at' := a) (n := n) v' hs' hl
  have wl1 : IntKind.i64.wrap ((w.length : Int) - 1) = (w.length : Int) - 1 := wr _ (by omega) (by omega)
  have eGb := errG_1 c w
  rw [eGb] at c31b
  have eG : errG c w n = errO c [w] := by simp [errG, e1]
  have eF : errF c w n = errO c [w] := by simp [errF, eG, e1]
  have eP : errP c w a n = errO c [w] := by simp [errP, e1]
  have x1 : (errO c [w] == 0) = false := by simpa using e1
  have x2 : (errO c [w] != 0) = true := by simpa using e1
  have x3 : (errO c [w] == errO c [w]) = true := by simp
  have x4 : (errO c [w] != errO c [w]) = false := by simp
  rw [eG] at c31
  rw [eF, if_neg e1] at c33
  rw [eP, if_neg e1] at c34
  refine S04.w5 ?_
  dsimp only [c5, sop, gop, nop, qmv, qsg, qex, qld, qcl, qln, qix, qbo, qt, qi]
  simp -implicitDefEqProofs only [go_sem, simprocAttr, o1, o2, f3, p3]
  refine call0 [22] false c16 (by simp -implicitDefEqProofs only [go_sem, simprocAttr]) (.inl rfl) ?_
  simp -implicitDefEqProofs only [go_sem, simprocAttr, hL]
  refine W_opsD _ _ _ (Vs [[], [], [27], [], [27], [], [], [], [], [7], [7], [], [], []]) ?_ ?_
  · decide
  simp -implicitDefEqProofs only [go_sem, simprocAttr, o1, o2]
  refine callD [] false [.fo (c.fv sw sp)] [] c18 ⟨rfl, trivial⟩ rfl (.inl rfl) ?_
  simp -implicitDefEqProofs only [go_sem, simprocAttr]
  refine app_cp (by simp -implicitDefEqProofs only [go_sem, simprocAttr] <;> rfl) idx_22 hs (fun x hx => (ints_elem w x hx).1) (by simp -implicitDefEqProofs only [go_sem, simprocAttr]) (by simp [byt_3, ints]; omega) (by simp [maxLen, ints]; omega) ?_
  intro g1
  simp -implicitDefEqProofs only [go_sem, simprocAttr, swC, spC]
  refine call0 [27] false c33 (by simp -implicitDefEqProofs only [go_sem, simprocAttr, lstN]) (.inl rfl) ?_
  simp -implicitDefEqProofs only [go_sem, simprocAttr]
  refine call0 [] false c34 (by simp -implicitDefEqProofs only [go_sem, simprocAttr]) (.inl rfl) ?_
  simp -implicitDefEqProofs only [go_sem, simprocAttr, o1, o2]
  refine call1 [] false (c23) ?_
  simp -implicitDefEqProofs only [go_sem, simprocAttr]
  refine call0 [] true c24w (by simp -implicitDefEqProofs only [go_sem, simprocAttr]) (.inr rfl) ?_
  simp -implicitDefEqProofs only [go_sem, simprocAttr, o1, o2]
  refine call1 [] false (c31) ?_
  simp -implicitDefEqProofs only [go_sem, simprocAttr, x1, x2, x3, x4, o1, o2]
  refine call1 [] false (c31b) ?_
  simp -implicitDefEqProofs only [go_sem, simprocAttr, x1, x2, x3, x4]
  refine call1 [] false (t17) ?_
  simp -implicitDefEqProofs only [go_sem, simprocAttr]
  exact ret_fv
theorem t5 {c : Cs} {sw sp s : FV} {w : List Int} {a n : Int} (v : CV c sw sp) (hs : lsOf s = some (ints w)) (hl : w.length ≤ 9223372036854775807) :
    Fn Q 5 [.fo (c.fv sw sp), .fo s, .fo (.agg [.int a, .int n])] (.one (.fx (.bool true))) := by
  cases hL : largeF c [w]
  · by_cases e1 : errO c [w] = 0
    · cases e3 : inB 1 400 n
      · exact t5_3 v hs hl hL e1 e3
      · cases hf : c.lf w n with
        | none => exact t5_n v hs hl hL e1 e3 hf
        | some l => cases l with
          | nil => exact t5_z v hs hl hL e1 e3 hf
          | cons x l => exact t5_s v hs hl hL e1 e3 hf
    · exact t5_O v hs hl hL e1
  · have o1 := ls_one v.w
    have o2 := ls_one v.p
    have f3 := ls_cells hs
    have p3 := ls_fone hs
    have c16 := t16 v (Lists_one hs hl) (by simp)
    refine S04.w5 ?_
    dsimp only [c5, sop, gop, nop, qmv, qsg, qex, qld, qcl, qln, qix, qbo, qt, qi]
    simp -implicitDefEqProofs only [go_sem, simprocAttr, o1, o2, f3, p3]
    refine call0 [22] false c16 (by simp -implicitDefEqProofs only [go_sem, simprocAttr]) (.inl rfl) ?_
    simp -implicitDefEqProofs only [go_sem, simprocAttr, hL]
    refine call1 [] false (t17) ?_
    simp -implicitDefEqProofs only [go_sem, simprocAttr]
    exact ret_fv
end S04

