/- A part of the proof: X04n. -/
import Derived.Test.YtncbkgbdpaibmaaX04l
import Derived.Test.YtncbkgbdpaibmaaX04i
set_option linter.unusedVariables false
set_option linter.unusedSimpArgs false
set_option maxRecDepth 20000
namespace S04
open Go Abs
theorem t6 {c : Cs} {sw sp sW : FV} {W : List (List Int)} {n : Int} (v : CV c sw sp) (hW : Lists sW W) (hl : W.length ≤ 9223372036854775807) :
    Fn Q 6 [.fo (c.fv sw sp), .fo sW, .fo (.int n)] (.one (.fx (.bool true))) := by
  have o1 := ls_one v.w
  have o2 := ls_one v.p
  have c16 := t16 v hW hl
  cases hL : largeF c W
  · obtain ⟨lW, lP, lw0, lw⟩ := large_no hL
    have c18 := t18 v (by omega) (by omega)
    have c38 := t38 hW (by omega) (fun l hl => by have := lw l hl; omega)
    have v' : CV c (swC c) (spC c) := ⟨rfl, rfl, v.wl, v.pl⟩
    have hW' : Lists (.list false (lsW W)) W := lists_of fun l hl => by have := lw l hl; omega
    have c39e := fun e => t39e (n := n) v' hW' hl e
    have c23 := t23 v' v (by omega)
    have c40 := t40s hW' hW (by omega) (fun l hl => by have := lw l hl; omega)
    have c22 := t22 v (by omega) (by omega)
    have c41 := t41 v hW (by omega) (fun l hl => by have := lw l hl; omega)
    have hW2 := hW
    obtain ⟨wl, w1, w2, w3⟩ := hW2
    have la : wl.length = W.length := by rw [← w2]; simp
    have oW := ls_one w1
    by_cases e1 : errC c = 0
    · rw [e1] at c22
      by_cases e2 : W.length = 0
      · have eB : errB c n W = 7 := by simp [errB, errB0, e1, e2]
        have c39 := c39e (by omega)
        rw [eB] at c39
        have e2' : (((W.length : Nat) : Int) == 0) = true := by simp [e2]
        refine S04.w6 ?_
        dsimp only [c6, sop, gop, nop, qmv, qsg, qex, qld, qcl, qln, qix, qbo, qt, qi]
        simp -implicitDefEqProofs only [go_sem, simprocAttr, o1, o2]
        refine call0 [] false c16 (by simp -implicitDefEqProofs only [go_sem, simprocAttr]) (.inl rfl) ?_
        simp -implicitDefEqProofs only [go_sem, simprocAttr, hL, o1, o2]
        refine call1 [] false (c18) ?_
        simp -implicitDefEqProofs only [go_sem, simprocAttr]
        refine call0 [] false c38 (by simp -implicitDefEqProofs only [go_sem, simprocAttr]) (.inl rfl) ?_
        simp -implicitDefEqProofs only [go_sem, simprocAttr, swC, spC]
        refine call0 [] false c39 (by simp -implicitDefEqProofs only [go_sem, simprocAttr]) (.inl rfl) ?_
        simp -implicitDefEqProofs only [go_sem, simprocAttr, o1, o2]
        refine call1 [] false (c23) ?_
        simp -implicitDefEqProofs only [go_sem, simprocAttr]
        refine call0 [] true c40 (by simp -implicitDefEqProofs only [go_sem, simprocAttr]) (.inr rfl) ?_
        simp -implicitDefEqProofs only [go_sem, simprocAttr, o1, o2]
        refine call1 [] false (c22) ?_
        simp -implicitDefEqProofs only [go_sem, simprocAttr, lenV_ls w1, la, e2']
        by_cases pz : W.length = 0
        · refine lp (n := 1) (lpStep ?_)
          have pz' : ¬ ((0 : Int) < (W.length : Nat)) := by omega
          simp -implicitDefEqProofs only [go_sem, simprocAttr, lenV_ls w1, la, pz', e2']
          refine call1 [] false (t17) ?_
          simp -implicitDefEqProofs only [go_sem, simprocAttr]
          exact ret_fv
        · refine lp (n := 1) (lpStep ?_)
          have pz' : ((0 : Int) < (W.length : Nat)) := by omega
          simp -implicitDefEqProofs only [go_sem, simprocAttr, lenV_ls w1, la, pz', e2']
          refine call1 [] false (t17) ?_
          simp -implicitDefEqProofs only [go_sem, simprocAttr]
          exact ret_fv
      · have e2' : (((W.length : Nat) : Int) == 0) = false := by simp; intro h; exact e2 (by simp [h])
        by_cases e3 : 5 < W.length
        · have e3' : (5 : Int) < (W.length : Nat) := by omega
          have eB : errB c n W = 5 := by simp only [errB, errB0, e1, if_neg e2, if_pos e3]; simp
          have c39 := c39e (by omega)
          rw [eB] at c39
          refine S04.w6 ?_
          dsimp only [c6, sop, gop, nop, qmv, qsg, qex, qld, qcl, qln, qix, qbo, qt, qi]
          simp -implicitDefEqProofs only [go_sem, simprocAttr, o1, o2]
          refine call0 [] false c16 (by simp -implicitDefEqProofs only [go_sem, simprocAttr]) (.inl rfl) ?_
          simp -implicitDefEqProofs only [go_sem, simprocAttr, hL, o1, o2]
          refine call1 [] false (c18) ?_
          simp -implicitDefEqProofs only [go_sem, simprocAttr]
          refine call0 [] false c38 (by simp -implicitDefEqProofs only [go_sem, simprocAttr]) (.inl rfl) ?_
          simp -implicitDefEqProofs only [go_sem, simprocAttr, swC, spC]
          refine call0 [] false c39 (by simp -implicitDefEqProofs only [go_sem, simprocAttr]) (.inl rfl) ?_
          simp -implicitDefEqProofs only [go_sem, simprocAttr, o1, o2]
          refine call1 [] false (c23) ?_
          simp -implicitDefEqProofs only [go_sem, simprocAttr]
          refine call0 [] true c40 (by simp -implicitDefEqProofs only [go_sem, simprocAttr]) (.inr rfl) ?_
          simp -implicitDefEqProofs only [go_sem, simprocAttr, o1, o2]
          refine call1 [] false (c22) ?_
          simp -implicitDefEqProofs only [go_sem, simprocAttr, lenV_ls w1, la, e2', e3']
          by_cases pz : W.length = 0
          · refine lp (n := 1) (lpStep ?_)
            have pz' : ¬ ((0 : Int) < (W.length : Nat)) := by omega
            simp -implicitDefEqProofs only [go_sem, simprocAttr, lenV_ls w1, la, pz', e2']
            refine call1 [] false (t17) ?_
            simp -implicitDefEqProofs only [go_sem, simprocAttr]
            exact ret_fv
          · refine lp (n := 1) (lpStep ?_)
            have pz' : ((0 : Int) < (W.length : Nat)) := by omega
            simp -implicitDefEqProofs only [go_sem, simprocAttr, lenV_ls w1, la, pz', e2']
            refine call1 [] false (t17) ?_
            simp -implicitDefEqProofs only [go_sem, simprocAttr]
            exact ret_fv
        · have e3' : ¬ (5 : Int) < (W.length : Nat) := by omega
          have eB0 : errB0 c W = errO c W := by simp only [errB0, e1, if_neg e2, if_neg e3]; simp
          by_cases e5 : W.any (fun w => !isW c.W.length 0 w) = true
          · have eO : errO c W = 4 := by unfold errO; rw [if_neg (by simpa using e1), if_pos e5]
            have eB : errB c n W = 4 := by simp only [errB, eB0, eO]; simp
            have c39 := c39e (by omega)
            rw [eB] at c39
            rw [if_pos e5] at c41
            refine S04.w6 ?_
            dsimp only [c6, sop, gop, nop, qmv, qsg, qex, qld, qcl, qln, qix, qbo, qt, qi]
            simp -implicitDefEqProofs only [go_sem, simprocAttr, o1, o2]
            refine call0 [] false c16 (by simp -implicitDefEqProofs only [go_sem, simprocAttr]) (.inl rfl) ?_
            simp -implicitDefEqProofs only [go_sem, simprocAttr, hL, o1, o2]
            refine call1 [] false (c18) ?_
            simp -implicitDefEqProofs only [go_sem, simprocAttr]
            refine call0 [] false c38 (by simp -implicitDefEqProofs only [go_sem, simprocAttr]) (.inl rfl) ?_
            simp -implicitDefEqProofs only [go_sem, simprocAttr, swC, spC]
            refine call0 [] false c39 (by simp -implicitDefEqProofs only [go_sem, simprocAttr]) (.inl rfl) ?_
            simp -implicitDefEqProofs only [go_sem, simprocAttr, o1, o2]
            refine call1 [] false (c23) ?_
            simp -implicitDefEqProofs only [go_sem, simprocAttr]
            refine call0 [] true c40 (by simp -implicitDefEqProofs only [go_sem, simprocAttr]) (.inr rfl) ?_
            simp -implicitDefEqProofs only [go_sem, simprocAttr, o1, o2]
            refine call1 [] false (c22) ?_
            simp -implicitDefEqProofs only [go_sem, simprocAttr, lenV_ls w1, la, e2', e3', o1, o2]
            refine call1 [] false (c41) ?_
            simp -implicitDefEqProofs only [go_sem, simprocAttr]
            by_cases pz : W.length = 0
            · refine lp (n := 1) (lpStep ?_)
              have pz' : ¬ ((0 : Int) < (W.length : Nat)) := by omega
              simp -implicitDefEqProofs only [go_sem, simprocAttr, lenV_ls w1, la, pz', e2']
              refine call1 [] false (t17) ?_
              simp -implicitDefEqProofs only [go_sem, simprocAttr]
              exact ret_fv
            · refine lp (n := 1) (lpStep ?_)
              have pz' : ((0 : Int) < (W.length : Nat)) := by omega
              simp -implicitDefEqProofs only [go_sem, simprocAttr, lenV_ls w1, la, pz', e2']
              refine call1 [] false (t17) ?_
              simp -implicitDefEqProofs only [go_sem, simprocAttr]
              exact ret_fv
          · have eO : errO c W = 0 := by unfold errO; rw [if_neg (by simpa using e1), if_neg e5]
            rw [if_neg e5] at c41
            have wv := mk_WsV w1 w2 w3 (by omega) eO
            have ok := errC_ok e1
            have r0 := ok.r0
            have b0 := ok.b0
            cases gn : inB 1 400 n
            · have eB : errB c n W = 3 := by simp only [errB, eB0, eO, gn]; simp
              have c39 := c39e (by omega)
              rw [eB] at c39
              refine S04.w6 ?_
              dsimp only [c6, sop, gop, nop, qmv, qsg, qex, qld, qcl, qln, qix, qbo, qt, qi]
              simp -implicitDefEqProofs only [go_sem, simprocAttr, o1, o2]
              refine call0 [] false c16 (by simp -implicitDefEqProofs only [go_sem, simprocAttr]) (.inl rfl) ?_
              simp -implicitDefEqProofs only [go_sem, simprocAttr, hL, o1, o2]
              refine call1 [] false (c18) ?_
              simp -implicitDefEqProofs only [go_sem, simprocAttr]
              refine call0 [] false c38 (by simp -implicitDefEqProofs only [go_sem, simprocAttr]) (.inl rfl) ?_
              simp -implicitDefEqProofs only [go_sem, simprocAttr, swC, spC]
              refine call0 [] false c39 (by simp -implicitDefEqProofs only [go_sem, simprocAttr]) (.inl rfl) ?_
              simp -implicitDefEqProofs only [go_sem, simprocAttr, o1, o2]
              refine call1 [] false (c23) ?_
              simp -implicitDefEqProofs only [go_sem, simprocAttr]
              refine call0 [] true c40 (by simp -implicitDefEqProofs only [go_sem, simprocAttr]) (.inr rfl) ?_
              simp -implicitDefEqProofs only [go_sem, simprocAttr, o1, o2]
              refine call1 [] false (c22) ?_
              simp -implicitDefEqProofs only [go_sem, simprocAttr, lenV_ls w1, la, e2', e3', o1, o2]
              refine call1 [] false (c41) ?_
              simp -implicitDefEqProofs only [go_sem, simprocAttr]
              refine call1 [] false (t36 n 1 400) ?_
              simp -implicitDefEqProofs only [go_sem, simprocAttr, gn]
              by_cases pz : W.length = 0
              · refine lp (n := 1) (lpStep ?_)
                have pz' : ¬ ((0 : Int) < (W.length : Nat)) := by omega
                simp -implicitDefEqProofs only [go_sem, simprocAttr, lenV_ls w1, la, pz', e2']
                refine call1 [] false (t17) ?_
                simp -implicitDefEqProofs only [go_sem, simprocAttr]
                exact ret_fv
              · refine lp (n := 1) (lpStep ?_)
                have pz' : ((0 : Int) < (W.length : Nat)) := by omega
                simp -implicitDefEqProofs only [go_sem, simprocAttr, lenV_ls w1, la, pz', e2']
                refine call1 [] false (t17) ?_
                simp -implicitDefEqProofs only [go_sem, simprocAttr]
                exact ret_fv
            · have gb := inB_iff.1 gn
              have c26 := fun {x : FV} (hx : x ∈ wl) => t26 v ok (wv.w x hx)
              have anyt : ∀ {k : Nat} {x : FV}, wl[k]? = some x → (W.take (k + 1)).any (fun w => decide (n < c.nd w)) = ((W.take k).any (fun w => decide (n < c.nd w)) || decide (n < c.nd x.toL)) := fun {k x} hx => by
                have : W[k]? = some x.toL := by rw [← w2, List.getElem?_map, hx]; rfl
                rw [List.take_add_one, this, List.any_append]
                simp
              cases hA : W.any (fun w => decide (n < c.nd w))
              · have eB : errB c n W = 0 := by simp only [errB, eB0, eO, gn, hA]; simp
                have wne : W ≠ [] := fun h => e2 (by simp [h])
                have hWk := (errO_ok eO).2
                have hnd : ∀ w ∈ W, c.nd w ≤ n := fun w hw => by
                  have := (List.any_eq_false.1 hA) w hw
                  simp at this
                  omega
                have hn2 : ∀ w ∈ W, 0 ≤ c.nd w - 2 * c.R + c.B := fun w hw => by
                  have := ok.nd_bd (hWk w hw).2.2
                  omega
                obtain ⟨r, hr⟩ := lines_ex hn2 hnd wne (by omega)
                have c39 := t39 (n := n) v' hW' eB hr
                have hrf := ref_lines hn2 hr
                rw [← la, ← w2] at hrf
                have c42 := t42 (n := n) v ok wv (by omega) (by omega) (fun h => wne (by rw [← w2, h]; rfl)) hrf
                have rl : r.1.length ≤ 5 := by
                  obtain ⟨⟨t, h1, _, h3⟩, _⟩ := lines_KM hn2 hr
                  have := h1.length_le
                  simp [numFrom] at this
                  rw [h3, List.length_cons]
                  omega
                have c24p := t24s (sa := .list false (ints r.1)) (sb := .list false (ints r.1)) (a := r.1) rfl rfl (by omega)
                refine S04.w6 ?_
                dsimp only [c6, sop, gop, nop, qmv, qsg, qex, qld, qcl, qln, qix, qbo, qt, qi]
                simp -implicitDefEqProofs only [go_sem, simprocAttr, o1, o2]
                refine call0 [] false c16 (by simp -implicitDefEqProofs only [go_sem, simprocAttr]) (.inl rfl) ?_
                simp -implicitDefEqProofs only [go_sem, simprocAttr, hL, o1, o2]
                refine call1 [] false (c18) ?_
                simp -implicitDefEqProofs only [go_sem, simprocAttr]
                refine call0 [] false c38 (by simp -implicitDefEqProofs only [go_sem, simprocAttr]) (.inl rfl) ?_
                simp -implicitDefEqProofs only [go_sem, simprocAttr, swC, spC]
                refine call0 [] false c39 (by simp -implicitDefEqProofs only [go_sem, simprocAttr]) (.inl rfl) ?_
                simp -implicitDefEqProofs only [go_sem, simprocAttr, o1, o2]
                refine call1 [] false (c23) ?_
                simp -implicitDefEqProofs only [go_sem, simprocAttr]
                refine call0 [] true c40 (by simp -implicitDefEqProofs only [go_sem, simprocAttr]) (.inr rfl) ?_
                simp -implicitDefEqProofs only [go_sem, simprocAttr, o1, o2]
                refine call1 [] false (c22) ?_
                simp -implicitDefEqProofs only [go_sem, simprocAttr, lenV_ls w1, la, e2', e3', o1, o2]
                refine call1 [] false (c41) ?_
                simp -implicitDefEqProofs only [go_sem, simprocAttr]
                refine call1 [] false (t36 n 1 400) ?_
                simp -implicitDefEqProofs only [go_sem, simprocAttr, gn]
                refine lpH 70 [12, 13] 70 [] (fun k : Nat => W.length - k) (fun k => k ≤ W.length) (fun k ρ h => ρ 13 = .fv (.int (k : Nat)) ∧ ρ 12 = .fv (.int 0)) 0 (Nat.zero_le _) ?_ ?_
                · simp -implicitDefEqProofs only [go_sem, simprocAttr]
                · rintro k ρ h k1 ⟨r13, r12⟩
                  by_cases hk : k < W.length
                  · have hk' : (k : Int) < (W.length : Nat) := by omega
                    have hw : IntKind.i64.wrap ((k : Int) + 1) = ((k + 1 : Nat) : Int) := wr _ (by omega) (by omega)
                    obtain ⟨x, hx⟩ : ∃ x, wl[k]? = some x := ⟨_, List.getElem?_eq_getElem (by omega)⟩
                    have hxw := wv.w x (List.mem_of_getElem? hx)
                    have gx : ¬ n < c.nd x.toL := by
                      have := hnd x.toL (by rw [← w2]; exact List.mem_map.2 ⟨x, List.mem_of_getElem? hx, rfl⟩)
                      omega
                    simp -implicitDefEqProofs only [go_sem, simprocAttr, r13, r12, lenV_ls w1, la, hk', index_ls w1 idx_56 hx (by rw [ls_cells hxw.s]; rfl), ls_cells hxw.s, o1, o2]
                    refine call1 [] false (c26 (List.mem_of_getElem? hx)) ?_
                    simp -implicitDefEqProofs only [go_sem, simprocAttr, gx, r13, hw]
                    refine nxt (k + 1) (by omega) (by omega) ?_
                    simp -implicitDefEqProofs only [go_sem, simprocAttr, r12]
                  · have hk' : ¬ (k : Int) < (W.length : Nat) := by omega
                    simp -implicitDefEqProofs only [go_sem, simprocAttr, r13, r12, lenV_ls w1, la, hk', o1, o2, oW]
                    refine call1 [] false (c42) ?_
                    simp -implicitDefEqProofs only [go_sem, simprocAttr]
                    refine call1 [] false (c24p) ?_
                    simp -implicitDefEqProofs only [go_sem, simprocAttr]
                    refine call1 [] false (t17) ?_
                    simp -implicitDefEqProofs only [go_sem, simprocAttr]
                    exact ret_fv
              · have eB : errB c n W = 8 := by simp only [errB, eB0, eO, gn, hA]; simp
                have c39 := c39e (by omega)
                rw [eB] at c39
                refine S04.w6 ?_
                dsimp only [c6, sop, gop, nop, qmv, qsg, qex, qld, qcl, qln, qix, qbo, qt, qi]
                simp -implicitDefEqProofs only [go_sem, simprocAttr, o1, o2]
                refine call0 [] false c16 (by simp -implicitDefEqProofs only [go_sem, simprocAttr]) (.inl rfl) ?_
                simp -implicitDefEqProofs only [go_sem, simprocAttr, hL, o1, o2]
                refine call1 [] false (c18) ?_
                simp -implicitDefEqProofs only [go_sem, simprocAttr]
                refine call0 [] false c38 (by simp -implicitDefEqProofs only [go_sem, simprocAttr]) (.inl rfl) ?_
                simp -implicitDefEqProofs only [go_sem, simprocAttr, swC, spC]
                refine call0 [] false c39 (by simp -implicitDefEqProofs only [go_sem, simprocAttr]) (.inl rfl) ?_
                simp -implicitDefEqProofs only [go_sem, simprocAttr, o1, o2]
                refine call1 [] false (c23) ?_
                simp -implicitDefEqProofs only [go_sem, simprocAttr]
                refine call0 [] true c40 (by simp -implicitDefEqProofs only [go_sem, simprocAttr]) (.inr rfl) ?_
                simp -implicitDefEqProofs only [go_sem, simprocAttr, o1, o2]
                refine call1 [] false (c22) ?_
                simp -implicitDefEqProofs only [go_sem, simprocAttr, lenV_ls w1, la, e2', e3', o1, o2]
                refine call1 [] false (c41) ?_
                simp -implicitDefEqProofs only [go_sem, simprocAttr]
                refine call1 [] false (t36 n 1 400) ?_
                simp -implicitDefEqProofs only [go_sem, simprocAttr, gn]
                refine lpH 70 [12, 13] 70 [] (fun a : Nat × Bool => W.length + 1 - a.1) (fun a => a.1 ≤ W.length ∧ (a.2 = true → (W.take a.1).any (fun w => decide (n < c.nd w)) = false)) (fun a ρ h => ρ 13 = .fv (.int (a.1 : Nat)) ∧ ρ 12 = .fv (.int (if a.2 then 0 else 8))) (0, true) ⟨Nat.zero_le _, by simp⟩ ?_ ?_
                · simp -implicitDefEqProofs only [go_sem, simprocAttr]
                · rintro ⟨k, b⟩ ρ h ⟨k1, i1⟩ ⟨r13, r12⟩
                  dsimp only at k1 i1 r13 r12
                  cases b with
                  | false =>
                    have r12' : ρ 12 = .fv (.int 8) := r12
                    by_cases hk : k < W.length
                    · have hk' : (k : Int) < (W.length : Nat) := by omega
                      simp -implicitDefEqProofs only [go_sem, simprocAttr, r13, r12', lenV_ls w1, la, hk']
                      refine call1 [] false (t17) ?_
                      simp -implicitDefEqProofs only [go_sem, simprocAttr]
                      exact ret_fv
                    · have hk' : ¬ (k : Int) < (W.length : Nat) := by omega
                      simp -implicitDefEqProofs only [go_sem, simprocAttr, r13, r12', lenV_ls w1, la, hk']
                      refine call1 [] false (t17) ?_
                      simp -implicitDefEqProofs only [go_sem, simprocAttr]
                      exact ret_fv
                  | true =>
                    have r12' : ρ 12 = .fv (.int 0) := r12
                    have ea := i1 rfl
                    by_cases hk : k < W.length
                    · have hk' : (k : Int) < (W.length : Nat) := by omega
                      have hw : IntKind.i64.wrap ((k : Int) + 1) = ((k + 1 : Nat) : Int) := wr _ (by omega) (by omega)
                      obtain ⟨x, hx⟩ : ∃ x, wl[k]? = some x := ⟨_, List.getElem?_eq_getElem (by omega)⟩
                      have hxw := wv.w x (List.mem_of_getElem? hx)
                      have et := anyt hx
                      simp -implicitDefEqProofs only [go_sem, simprocAttr, r13, r12', lenV_ls w1, la, hk', index_ls w1 idx_56 hx (by rw [ls_cells hxw.s]; rfl), ls_cells hxw.s, o1, o2]
                      refine call1 [] false (c26 (List.mem_of_getElem? hx)) ?_
                      by_cases gx : n < c.nd x.toL
                      · simp -implicitDefEqProofs only [go_sem, simprocAttr, gx, r13, hw]
                        refine nxt (k + 1, false) (by simp only; omega) ⟨by simp only; omega, by simp⟩ ?_
                        simp -implicitDefEqProofs only [go_sem, simprocAttr]
                      · simp -implicitDefEqProofs only [go_sem, simprocAttr, gx, r13, hw]
                        refine nxt (k + 1, true) (by simp only; omega) ⟨by simp only; omega, fun _ => by rw [et, ea]; simp only [gx, Bool.false_or, decide_false]⟩ ?_
                        simp -implicitDefEqProofs only [go_sem, simprocAttr, r12']
                    · rw [List.take_of_length_le (by omega), hA] at ea
                      simp at ea
    · have x1 : (errC c == 0) = false := by simpa using e1
      have x3 : (errC c == errC c) = true := by simp
      have x4 : (errC c != 0) = true := by simpa using e1
      have eB : errB c n W = errC c := by simp [errB, errB0, e1]
      have c39 := c39e (by omega)
      rw [eB] at c39
      refine S04.w6 ?_
      dsimp only [c6, sop, gop, nop, qmv, qsg, qex, qld, qcl, qln, qix, qbo, qt, qi]
      simp -implicitDefEqProofs only [go_sem, simprocAttr, o1, o2]
      refine call0 [] false c16 (by simp -implicitDefEqProofs only [go_sem, simprocAttr]) (.inl rfl) ?_
      simp -implicitDefEqProofs only [go_sem, simprocAttr, hL, o1, o2]
      refine call1 [] false (c18) ?_
      simp -implicitDefEqProofs only [go_sem, simprocAttr]
      refine call0 [] false c38 (by simp -implicitDefEqProofs only [go_sem, simprocAttr]) (.inl rfl) ?_
      simp -implicitDefEqProofs only [go_sem, simprocAttr, swC, spC]
      refine call0 [] false c39 (by simp -implicitDefEqProofs only [go_sem, simprocAttr]) (.inl rfl) ?_
      simp -implicitDefEqProofs only [go_sem, simprocAttr, o1, o2]
      refine call1 [] false (c23) ?_
      simp -implicitDefEqProofs only [go_sem, simprocAttr]
      refine call0 [] true c40 (by simp -implicitDefEqProofs only [go_sem, simprocAttr]) (.inr rfl) ?_
      simp -implicitDefEqProofs only [go_sem, simprocAttr, o1, o2]
      refine call1 [] false (c22) ?_
      simp -implicitDefEqProofs only [go_sem, simprocAttr, x1]
      by_cases pz : W.length = 0
      · refine lp (n := 1) (lpStep ?_)
        have pz' : ¬ ((0 : Int) < (W.length : Nat)) := by omega
        simp -implicitDefEqProofs only [go_sem, simprocAttr, lenV_ls w1, la, pz', x1, x3, x4]
        refine call1 [] false (t17) ?_
        simp -implicitDefEqProofs only [go_sem, simprocAttr]
        exact ret_fv
      · refine lp (n := 1) (lpStep ?_)
        have pz' : ((0 : Int) < (W.length : Nat)) := by omega
        simp -implicitDefEqProofs only [go_sem, simprocAttr, lenV_ls w1, la, pz', x1, x3, x4]
        refine call1 [] false (t17) ?_
        simp -implicitDefEqProofs only [go_sem, simprocAttr]
        exact ret_fv
  · refine S04.w6 ?_
    dsimp only [c6, sop, gop, nop, qmv, qsg, qex, qld, qcl, qln, qix, qbo, qt, qi]
    simp -implicitDefEqProofs only [go_sem, simprocAttr, o1, o2]
    refine call0 [] false c16 (by simp -implicitDefEqProofs only [go_sem, simprocAttr]) (.inl rfl) ?_
    simp -implicitDefEqProofs only [go_sem, simprocAttr, hL]
    refine call1 [] false (t17) ?_
    simp -implicitDefEqProofs only [go_sem, simprocAttr]
    exact ret_fv
end S04

