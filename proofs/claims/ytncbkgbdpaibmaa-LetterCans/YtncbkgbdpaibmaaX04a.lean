/- A part of the proof: X04a, X04i. -/
import Derived.Test.YtncbkgbdpaibmaaH04h
import Derived.Test.YtncbkgbdpaibmaaC04a0
import Derived.Test.YtncbkgbdpaibmaaC04r0
set_option linter.unusedVariables false
set_option linter.unusedSimpArgs false
set_option maxRecDepth 20000
namespace S04
open Go Abs
structure CA (c : Cs) (sw sp : FV) : Prop where
  v : CV c sw sp
theorem Lists_two {s t : FV} {w g : List Int} (hs : lsOf s = some (ints w)) (ht : lsOf t = some (ints g)) (hl : w.length ≤ 9223372036854775807) (hl' : g.length ≤ 9223372036854775807) : Lists (.list false [s, t]) [w, g] :=
  ⟨[s, t], rfl, by simp [toL_ls hs, toL_ls ht], fun x hx => by
    simp at hx
    rcases hx with rfl | rfl
    · exact ⟨w, hs, hl⟩
    · exact ⟨g, ht, hl'⟩⟩
theorem t3 {c : Cs} {sw sp s sg : FV} {w g : List Int} (v : CV c sw sp) (hs : lsOf s = some (ints w)) (hg : lsOf sg = some (ints g)) (hl : w.length ≤ 9223372036854775807) (hgl : g.length ≤ 9223372036854775807) :
    Fn Q 3 [.fo (c.fv sw sp), .fo s, .fo sg] (.one (.fx (.bool true))) := by
  have o1 := ls_one v.w
  have o2 := ls_one v.p
  have f3 := ls_cells hs
  have p3 := ls_fone hs
  have f4 := ls_cells hg
  have p4 := ls_fone hg
  have c16 := t16 v (Lists_two hs hg hl hgl) (by simp)
  cases hL : largeF c [w, g]
  · obtain ⟨lW, lP, _, lw⟩ := large_no hL
    have lw1 := lw w (by simp)
    have lg1 := lw g (by simp)
    have c18 := t18 v (by omega) (by omega)
    have v' : CV c (swC c) (spC c) := ⟨rfl, rfl, v.wl, v.pl⟩
    have c19 := t19 v'
    have hs' : lsOf (.list false (ints w)) = some (ints w) := rfl
    have hg' : lsOf (.list false (ints g)) = some (ints g) := rfl
    have c20 := t20 v' hs' hl
    have c21 := t21 v' hs' hl hg' hgl
    have c22 := t22 v (by omega) (by omega)
    have c23 := t23 v' v (by omega)
    have c24w := t24s hs' hs (by omega)
    have c24g := t24s hg' hg (by omega)
    have c25 := t25 v hs (by omega) false
    have eO := errO1 c w
    by_cases e1 : errC c = 0
    · have e1' : (errC c == 0) = true := by simpa using e1
      rw [e1] at c19 c22
      cases e2 : isW c.W.length 0 w
      · have eOc : errO c [w] = 4 := by rw [eO, if_neg (by simpa using e1), if_pos e2]
        have eL : errL c w g = 4 := by simp [errL, eOc]
        rw [eOc] at c20
        rw [eL] at c21
        refine S04.w3 ?_
        dsimp only [c3, sop, gop, nop, qmv, qsg, qex, qld, qcl, qln, qix, qbo, qt, qi]
        simp -implicitDefEqProofs only [go_sem, simprocAttr, o1, o2, f3, p3, f4, p4]
        refine call0 [21] false c16 (by simp -implicitDefEqProofs only [go_sem, simprocAttr]) (.inl rfl) ?_
        simp -implicitDefEqProofs only [go_sem, simprocAttr, hL, o1, o2]
        refine call1 [] false (c18) ?_
        simp -implicitDefEqProofs only [go_sem, simprocAttr]
        refine app_cp (by simp -implicitDefEqProofs only [go_sem, simprocAttr] <;> rfl) idx_22 hs (fun x hx => (ints_elem w x hx).1) (by simp -implicitDefEqProofs only [go_sem, simprocAttr]) (by simp [byt_3, ints]; omega) (by simp [maxLen, ints]; omega) ?_
        intro gw
        simp -implicitDefEqProofs only [go_sem, simprocAttr]
        refine app_cp (by simp -implicitDefEqProofs only [go_sem, simprocAttr] <;> rfl) idx_22 hg (fun x hx => (ints_elem g x hx).1) (by simp -implicitDefEqProofs only [go_sem, simprocAttr]) (by simp [byt_3, ints]; omega) (by simp [maxLen, ints]; omega) ?_
        intro gg
        simp -implicitDefEqProofs only [go_sem, simprocAttr, swC, spC]
        refine call1 [] false (c19) ?_
        simp -implicitDefEqProofs only [go_sem, simprocAttr]
        refine call0 [26] true c20 (by simp -implicitDefEqProofs only [go_sem, simprocAttr, lstN]) (.inr rfl) ?_
        simp -implicitDefEqProofs only [go_sem, simprocAttr]
        refine call0 [26, 29] false c21 (by simp -implicitDefEqProofs only [go_sem, simprocAttr, lstN]) (.inl rfl) ?_
        simp -implicitDefEqProofs only [go_sem, simprocAttr, o1, o2]
        refine call1 [] false (c22) ?_
        simp -implicitDefEqProofs only [go_sem, simprocAttr, o1, o2]
        refine call1 [] false (c23) ?_
        simp -implicitDefEqProofs only [go_sem, simprocAttr]
        refine call0 [] true c24w (by simp -implicitDefEqProofs only [go_sem, simprocAttr]) (.inr rfl) ?_
        simp -implicitDefEqProofs only [go_sem, simprocAttr]
        refine call0 [] true c24g (by simp -implicitDefEqProofs only [go_sem, simprocAttr]) (.inr rfl) ?_
        simp -implicitDefEqProofs only [go_sem, simprocAttr, o1, o2]
        refine call1 [] false (c25) ?_
        simp -implicitDefEqProofs only [go_sem, simprocAttr, e2]
        refine call1 [] false (t17) ?_
        simp -implicitDefEqProofs only [go_sem, simprocAttr]
        exact ret_fv
      · have eOc : errO c [w] = 0 := by rw [eO, if_neg (by simpa using e1), if_neg (by simp [e2])]
        rw [eOc, if_pos rfl] at c20
        obtain ⟨ok, hw⟩ := errO_ok eOc
        obtain ⟨h1, h2, h3⟩ := hw w (by simp)
        have wv : WV c s w := ⟨hs, lw1, h3⟩
        have c26 := t26 v ok wv
        have c27 := t27 hs hg (by omega) (by omega)
        have nn : (c.nd w != c.nd w) = false := by simp
        cases e3 : gapsB w.length g
        · have eL : errL c w g = 4 := by simp [errL, eOc, e3]
          rw [eL] at c21
          refine S04.w3 ?_
          dsimp only [c3, sop, gop, nop, qmv, qsg, qex, qld, qcl, qln, qix, qbo, qt, qi]
          simp -implicitDefEqProofs only [go_sem, simprocAttr, o1, o2, f3, p3, f4, p4]
          refine call0 [21] false c16 (by simp -implicitDefEqProofs only [go_sem, simprocAttr]) (.inl rfl) ?_
          simp -implicitDefEqProofs only [go_sem, simprocAttr, hL, o1, o2]
          refine call1 [] false (c18) ?_
          simp -implicitDefEqProofs only [go_sem, simprocAttr]
          refine app_cp (by simp -implicitDefEqProofs only [go_sem, simprocAttr] <;> rfl) idx_22 hs (fun x hx => (ints_elem w x hx).1) (by simp -implicitDefEqProofs only [go_sem, simprocAttr]) (by simp [byt_3, ints]; omega) (by simp [maxLen, ints]; omega) ?_
          intro gw
          simp -implicitDefEqProofs only [go_sem, simprocAttr]
          refine app_cp (by simp -implicitDefEqProofs only [go_sem, simprocAttr] <;> rfl) idx_22 hg (fun x hx => (ints_elem g x hx).1) (by simp -implicitDefEqProofs only [go_sem, simprocAttr]) (by simp [byt_3, ints]; omega) (by simp [maxLen, ints]; omega) ?_
          intro gg
          simp -implicitDefEqProofs only [go_sem, simprocAttr, swC, spC]
          refine call1 [] false (c19) ?_
          simp -implicitDefEqProofs only [go_sem, simprocAttr]
          refine call0 [26] true c20 (by simp -implicitDefEqProofs only [go_sem, simprocAttr, lstN]) (.inr rfl) ?_
          simp -implicitDefEqProofs only [go_sem, simprocAttr]
          refine call0 [26, 29] false c21 (by simp -implicitDefEqProofs only [go_sem, simprocAttr, lstN]) (.inl rfl) ?_
          simp -implicitDefEqProofs only [go_sem, simprocAttr, o1, o2]
          refine call1 [] false (c22) ?_
          simp -implicitDefEqProofs only [go_sem, simprocAttr, o1, o2]
          refine call1 [] false (c23) ?_
          simp -implicitDefEqProofs only [go_sem, simprocAttr]
          refine call0 [] true c24w (by simp -implicitDefEqProofs only [go_sem, simprocAttr]) (.inr rfl) ?_
          simp -implicitDefEqProofs only [go_sem, simprocAttr]
          refine call0 [] true c24g (by simp -implicitDefEqProofs only [go_sem, simprocAttr]) (.inr rfl) ?_
          simp -implicitDefEqProofs only [go_sem, simprocAttr, o1, o2]
          refine call1 [] false (c25) ?_
          simp -implicitDefEqProofs only [go_sem, simprocAttr, e2, o1, o2]
          refine call1 [] false (c26) ?_
          simp -implicitDefEqProofs only [go_sem, simprocAttr, nn]
          refine call1 [] false (c27) ?_
          simp -implicitDefEqProofs only [go_sem, simprocAttr, e3]
          refine call1 [] false (t17) ?_
          simp -implicitDefEqProofs only [go_sem, simprocAttr]
          exact ret_fv
        · have eL : errL c w g = 0 := by simp [errL, eOc, e3]
          obtain ⟨_, q1, q2⟩ := errL_ok eL
          rw [eL, if_pos rfl, if_pos rfl] at c21
          have c28 := t28 v ok wv hg q1 q2
          have lkl : (c.lk w g).length = g.length := lks_len (c.loo w) g (by rw [c.loo_len]; omega)
          have lkb := lks_bd (c.loo w) g (ok.loo w) (fun x hx => by have := q2 x hx; omega)
          have c29 := t29 (s := .list false (ints (c.lk w g))) rfl (by omega) (fun x hx => by have := lkb x hx; omega)
          have c24l := t24s (lsOf_lstN (ints (c.lk w g))) (show lsOf (.list false (ints (c.lk w g))) = some (ints (c.lk w g)) from rfl) (by omega)
          have sn : (sprF (c.lk w g) == sprF (c.lk w g)) = true := by simp
          refine S04.w3 ?_
          dsimp only [c3, sop, gop, nop, qmv, qsg, qex, qld, qcl, qln, qix, qbo, qt, qi]
          simp -implicitDefEqProofs only [go_sem, simprocAttr, o1, o2, f3, p3, f4, p4]
          refine call0 [21] false c16 (by simp -implicitDefEqProofs only [go_sem, simprocAttr]) (.inl rfl) ?_
          simp -implicitDefEqProofs only [go_sem, simprocAttr, hL, o1, o2]
          refine call1 [] false (c18) ?_
          simp -implicitDefEqProofs only [go_sem, simprocAttr]
          refine app_cp (by simp -implicitDefEqProofs only [go_sem, simprocAttr] <;> rfl) idx_22 hs (fun x hx => (ints_elem w x hx).1) (by simp -implicitDefEqProofs only [go_sem, simprocAttr]) (by simp [byt_3, ints]; omega) (by simp [maxLen, ints]; omega) ?_
          intro gw
          simp -implicitDefEqProofs only [go_sem, simprocAttr]
          refine app_cp (by simp -implicitDefEqProofs only [go_sem, simprocAttr] <;> rfl) idx_22 hg (fun x hx => (ints_elem g x hx).1) (by simp -implicitDefEqProofs only [go_sem, simprocAttr]) (by simp [byt_3, ints]; omega) (by simp [maxLen, ints]; omega) ?_
          intro gg
          simp -implicitDefEqProofs only [go_sem, simprocAttr, swC, spC]
          refine call1 [] false (c19) ?_
          simp -implicitDefEqProofs only [go_sem, simprocAttr]
          refine call0 [26] true c20 (by simp -implicitDefEqProofs only [go_sem, simprocAttr, lstN]) (.inr rfl) ?_
          simp -implicitDefEqProofs only [go_sem, simprocAttr]
          refine call0 [26, 29] false c21 (by simp -implicitDefEqProofs only [go_sem, simprocAttr, lstN]) (.inl rfl) ?_
          simp -implicitDefEqProofs only [go_sem, simprocAttr, o1, o2]
          refine call1 [] false (c22) ?_
          simp -implicitDefEqProofs only [go_sem, simprocAttr, o1, o2]
          refine call1 [] false (c23) ?_
          simp -implicitDefEqProofs only [go_sem, simprocAttr]
          refine call0 [] true c24w (by simp -implicitDefEqProofs only [go_sem, simprocAttr]) (.inr rfl) ?_
          simp -implicitDefEqProofs only [go_sem, simprocAttr]
          refine call0 [] true c24g (by simp -implicitDefEqProofs only [go_sem, simprocAttr]) (.inr rfl) ?_
          simp -implicitDefEqProofs only [go_sem, simprocAttr, o1, o2]
          refine call1 [] false (c25) ?_
          simp -implicitDefEqProofs only [go_sem, simprocAttr, e2, o1, o2]
          refine call1 [] false (c26) ?_
          simp -implicitDefEqProofs only [go_sem, simprocAttr, nn]
          refine call1 [] false (c27) ?_
          simp -implicitDefEqProofs only [go_sem, simprocAttr, e3, o1, o2]
          refine call1 [] false (c28) ?_
          simp -implicitDefEqProofs only [go_sem, simprocAttr]
          refine call1 [] false (c24l) ?_
          simp -implicitDefEqProofs only [go_sem, simprocAttr]
          refine call1 [] false (c29) ?_
          simp -implicitDefEqProofs only [go_sem, simprocAttr, sn]
          refine call1 [] false (t17) ?_
          simp -implicitDefEqProofs only [go_sem, simprocAttr]
          exact ret_fv
    · have e1' : (errC c == 0) = false := by simpa using e1
      have e1n : (errC c != 0) = true := by simpa using e1
      have eOc : errO c [w] = errC c := by rw [eO, if_pos e1]
      have eL : errL c w g = errC c := by simp [errL, eOc, e1]
      have nn : (errC c != errC c) = false := by simp
      rw [eOc, if_neg e1] at c20
      rw [eL, if_neg e1, if_neg e1] at c21
      refine S04.w3 ?_
      dsimp only [c3, sop, gop, nop, qmv, qsg, qex, qld, qcl, qln, qix, qbo, qt, qi]
      simp -implicitDefEqProofs only [go_sem, simprocAttr, o1, o2, f3, p3, f4, p4]
      refine call0 [21] false c16 (by simp -implicitDefEqProofs only [go_sem, simprocAttr]) (.inl rfl) ?_
      simp -implicitDefEqProofs only [go_sem, simprocAttr, hL, o1, o2]
      refine call1 [] false (c18) ?_
      simp -implicitDefEqProofs only [go_sem, simprocAttr]
      refine app_cp (by simp -implicitDefEqProofs only [go_sem, simprocAttr] <;> rfl) idx_22 hs (fun x hx => (ints_elem w x hx).1) (by simp -implicitDefEqProofs only [go_sem, simprocAttr]) (by simp [byt_3, ints]; omega) (by simp [maxLen, ints]; omega) ?_
      intro gw
      simp -implicitDefEqProofs only [go_sem, simprocAttr]
      refine app_cp (by simp -implicitDefEqProofs only [go_sem, simprocAttr] <;> rfl) idx_22 hg (fun x hx => (ints_elem g x hx).1) (by simp -implicitDefEqProofs only [go_sem, simprocAttr]) (by simp [byt_3, ints]; omega) (by simp [maxLen, ints]; omega) ?_
      intro gg
      simp -implicitDefEqProofs only [go_sem, simprocAttr, swC, spC]
      refine call1 [] false (c19) ?_
      simp -implicitDefEqProofs only [go_sem, simprocAttr]
      refine call0 [26] true c20 (by simp -implicitDefEqProofs only [go_sem, simprocAttr, lstN]) (.inr rfl) ?_
      simp -implicitDefEqProofs only [go_sem, simprocAttr]
      refine call0 [26, 29] false c21 (by simp -implicitDefEqProofs only [go_sem, simprocAttr, lstN]) (.inl rfl) ?_
      simp -implicitDefEqProofs only [go_sem, simprocAttr, o1, o2]
      refine call1 [] false (c22) ?_
      simp -implicitDefEqProofs only [go_sem, simprocAttr, o1, o2]
      refine call1 [] false (c23) ?_
      simp -implicitDefEqProofs only [go_sem, simprocAttr]
      refine call0 [] true c24w (by simp -implicitDefEqProofs only [go_sem, simprocAttr]) (.inr rfl) ?_
      simp -implicitDefEqProofs only [go_sem, simprocAttr]
      refine call0 [] true c24g (by simp -implicitDefEqProofs only [go_sem, simprocAttr]) (.inr rfl) ?_
      simp -implicitDefEqProofs only [go_sem, simprocAttr, nn, e1', e1n]
      refine call1 [] false (t17) ?_
      simp -implicitDefEqProofs only [go_sem, simprocAttr]
      exact ret_fv
  · refine S04.w3 ?_
    dsimp only [c3, sop, gop, nop, qmv, qsg, qex, qld, qcl, qln, qix, qbo, qt, qi]
    simp -implicitDefEqProofs only [go_sem, simprocAttr, o1, o2, f3, p3, f4, p4]
    refine call0 [21] false c16 (by simp -implicitDefEqProofs only [go_sem, simprocAttr]) (.inl rfl) ?_
    simp -implicitDefEqProofs only [go_sem, simprocAttr, hL]
    refine call1 [] false (t17) ?_
    simp -implicitDefEqProofs only [go_sem, simprocAttr]
    exact ret_fv
end S04

namespace S04
open Go Abs
@[reducible] def lsW (W : List (List Int)) : List FV := W.map fun l => .list false (ints l)
end S04

