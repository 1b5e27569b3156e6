/- A part of the proof: X04q. -/
import Derived.Test.YtncbkgbdpaibmaaX04p
import Derived.Test.YtncbkgbdpaibmaaX04a
import Derived.Test.YtncbkgbdpaibmaaC04a0
set_option linter.unusedVariables false
set_option linter.unusedSimpArgs false
set_option maxRecDepth 20000
namespace S04
open Go Abs
theorem sumI_nn : ∀ g : List Int, (∀ x ∈ g, 0 ≤ x ∧ x ≤ 400) → 0 ≤ sumI g ∧ sumI g ≤ 400 * g.length
  | [], _ => by simp [sumI]
  | x :: g, h => by
    have := sumI_nn g fun y hy => h y (by simp [hy])
    have := h x (by simp)
    simp only [sumI, List.length_cons]
    omega
theorem lnF_lists {L : List (List Int)} (h : ∀ l ∈ L, l.length ≤ 9223372036854775807) : Lists (lstN (lnF L)) L := by
  refine ⟨lnF L, lsOf_lstN _, ?_, fun x hx => ?_⟩
  · unfold lnF
    rw [List.map_map]
    conv => rhs; rw [← List.map_id L]
    exact List.map_congr_left fun l _ => toL_ls (lsOf_lstN _)
  · unfold lnF at hx
    rw [List.mem_map] at hx
    obtain ⟨l, hl, rfl⟩ := hx
    exact ⟨l, lsOf_lstN _, h l hl⟩
set_option maxHeartbeats 1000000 in
theorem t9 {c : Cs} {sw sp s sg : FV} {w g : List Int} {lo hi : Int} (v : CV c sw sp) (hs : lsOf s = some (ints w)) (hl : w.length ≤ 9223372036854775807) (hg : lsOf sg = some (ints g)) (hgl : g.length ≤ 9223372036854775807) :
    Fn Q 9 [.fo (c.fv sw sp), .fo (.agg [s, sg]), .fo (.agg [.int lo, .int hi])] (.one (.fx (.bool true))) := by
  have o1 := ls_one v.w
  have o2 := ls_one v.p
  have o3 := ls_one hs
  have o4 := ls_one hg
  have l3 := ls_lcells hs
  have l4 := ls_lcells hg
  have f3 := ls_cells hs
  have p3 := ls_fone hs
  have f4 := ls_cells hg
  have p4 := ls_fone hg
  have c16 := t16 v (Lists_two hs hg hl hgl) (by simp)
  cases hL : largeF c [w, g]
  · obtain ⟨lW, lP, _, lw⟩ := large_no hL
    have lw1 := lw w (by simp)
    have lg1 := lw g (by simp)
    have c18 := t18 v (by omega) (by omega)
    have v' : CV c (swC c) (spC c) := ⟨rfl, rfl, v.wl, v.pl⟩
    have hs' : lsOf (.list false (ints w)) = some (ints w) := rfl
    have hg' : lsOf (.list false (ints g)) = some (ints g) := rfl
    have c47 := t47 (lo := lo) (hi := hi) v' hs' (by omega) hg' (by omega)
    have c23 := t23 v' v (by omega)
    have c24w := t24s hs' hs (by omega)
    have c24g := t24s hg' hg (by omega)
    have c22 := t22 v (by omega) (by omega)
    have c25 := t25 v hs (by omega) true
    have c27 := t27 hs hg (by omega) (by omega)
    have c48 := t48 hs (by omega)
    rw [if_pos rfl] at c25
    by_cases e1 : errC c = 0
    · rw [e1] at c22
      have ok := errC_ok e1
      cases e2 : isW c.W.length (-1) w
      · have eR : errR c w g lo hi = 4 := by simp [errR, errQ, e1, e2]
        have eV : rdV c w g lo hi = .nil := by simp [rdV, eR]
        rw [eR, eV] at c47
        rw [e2] at c25
        refine w9 ?_
        dsimp only [c9, sop, gop, nop, qmv, qsg, qex, qld, qcl, qln, qix, qbo, qt, qi]
        simp -implicitDefEqProofs only [go_sem, simprocAttr, o1, o2, o3, o4, l3, l4, Bool.and_self]
        refine W_opsD _ _ _ (Vs []) ?_ ?_
        · decide
        simp -implicitDefEqProofs only [go_sem, simprocAttr, o1, o2, o3, o4, f3, p3, f4, p4]
        refine call0 [24] false c16 (by simp -implicitDefEqProofs only [go_sem, simprocAttr]) (.inl rfl) ?_
        simp -implicitDefEqProofs only [go_sem, simprocAttr, hL, o1, o2]
        refine call1 [] false (c18) ?_
        simp -implicitDefEqProofs only [go_sem, simprocAttr]
        refine app_cp (by simp -implicitDefEqProofs only [go_sem, simprocAttr] <;> rfl) idx_22 hs (fun x hx => (ints_elem w x hx).1) (by simp -implicitDefEqProofs only [go_sem, simprocAttr]) (by simp [byt_3, ints]; omega) (by simp [maxLen, ints]; omega) ?_
        intro gw
        simp -implicitDefEqProofs only [go_sem, simprocAttr]
        refine app_cp (by simp -implicitDefEqProofs only [go_sem, simprocAttr] <;> rfl) idx_22 hg (fun x hx => (ints_elem g x hx).1) (by simp -implicitDefEqProofs only [go_sem, simprocAttr]) (by simp [byt_3, ints]; omega) (by simp [maxLen, ints]; omega) ?_
        intro gg
        simp -implicitDefEqProofs only [go_sem, simprocAttr, swC, spC]
        refine call0 [29, 32] false c47 (by simp -implicitDefEqProofs only [go_sem, simprocAttr, lstN]) (.inl rfl) ?_
        simp -implicitDefEqProofs only [go_sem, simprocAttr, o1, o2]
        refine call1 [] false (c23) ?_
        simp -implicitDefEqProofs only [go_sem, simprocAttr]
        refine call0 [] true c24w (by simp -implicitDefEqProofs only [go_sem, simprocAttr]) (.inr rfl) ?_
        simp -implicitDefEqProofs only [go_sem, simprocAttr]
        refine call0 [] true c24g (by simp -implicitDefEqProofs only [go_sem, simprocAttr]) (.inr rfl) ?_
        simp -implicitDefEqProofs only [go_sem, simprocAttr, o1, o2]
        refine call1 [] false (c22) ?_
        simp -implicitDefEqProofs only [go_sem, simprocAttr, o1, o2]
        refine call1 [] false (c25) ?_
        simp -implicitDefEqProofs only [go_sem, simprocAttr]
        refine call1 [] false (t17) ?_
        simp -implicitDefEqProofs only [go_sem, simprocAttr]
        exact ret_fv
      · rw [e2] at c25
        obtain ⟨q1, q2, q3⟩ := isW_iff.1 e2
        cases e3 : gapsB w.length g
        · have eR : errR c w g lo hi = 4 := by simp [errR, errQ, e1, e2, e3]
          have eV : rdV c w g lo hi = .nil := by simp [rdV, eR]
          rw [eR, eV] at c47
          rw [e3] at c27
          refine w9 ?_
          dsimp only [c9, sop, gop, nop, qmv, qsg, qex, qld, qcl, qln, qix, qbo, qt, qi]
          simp -implicitDefEqProofs only [go_sem, simprocAttr, o1, o2, o3, o4, l3, l4, Bool.and_self]
          refine W_opsD _ _ _ (Vs []) ?_ ?_
          · decide
          simp -implicitDefEqProofs only [go_sem, simprocAttr, o1, o2, o3, o4, f3, p3, f4, p4]
          refine call0 [24] false c16 (by simp -implicitDefEqProofs only [go_sem, simprocAttr]) (.inl rfl) ?_
          simp -implicitDefEqProofs only [go_sem, simprocAttr, hL, o1, o2]
          refine call1 [] false (c18) ?_
          simp -implicitDefEqProofs only [go_sem, simprocAttr]
          refine app_cp (by simp -implicitDefEqProofs only [go_sem, simprocAttr] <;> rfl) idx_22 hs (fun x hx => (ints_elem w x hx).1) (by simp -implicitDefEqProofs only [go_sem, simprocAttr]) (by simp [byt_3, ints]; omega) (by simp [maxLen, ints]; omega) ?_
          intro gw
          simp -implicitDefEqProofs only [go_sem, simprocAttr]
          refine app_cp (by simp -implicitDefEqProofs only [go_sem, simprocAttr] <;> rfl) idx_22 hg (fun x hx => (ints_elem g x hx).1) (by simp -implicitDefEqProofs only [go_sem, simprocAttr]) (by simp [byt_3, ints]; omega) (by simp [maxLen, ints]; omega) ?_
          intro gg
          simp -implicitDefEqProofs only [go_sem, simprocAttr, swC, spC]
          refine call0 [29, 32] false c47 (by simp -implicitDefEqProofs only [go_sem, simprocAttr, lstN]) (.inl rfl) ?_
          simp -implicitDefEqProofs only [go_sem, simprocAttr, o1, o2]
          refine call1 [] false (c23) ?_
          simp -implicitDefEqProofs only [go_sem, simprocAttr]
          refine call0 [] true c24w (by simp -implicitDefEqProofs only [go_sem, simprocAttr]) (.inr rfl) ?_
          simp -implicitDefEqProofs only [go_sem, simprocAttr]
          refine call0 [] true c24g (by simp -implicitDefEqProofs only [go_sem, simprocAttr]) (.inr rfl) ?_
          simp -implicitDefEqProofs only [go_sem, simprocAttr, o1, o2]
          refine call1 [] false (c22) ?_
          simp -implicitDefEqProofs only [go_sem, simprocAttr, o1, o2]
          refine call1 [] false (c25) ?_
          simp -implicitDefEqProofs only [go_sem, simprocAttr]
          refine call1 [] false (c27) ?_
          simp -implicitDefEqProofs only [go_sem, simprocAttr]
          refine call1 [] false (t17) ?_
          simp -implicitDefEqProofs only [go_sem, simprocAttr]
          exact ret_fv
        · rw [e3] at c27
          obtain ⟨g1, g2⟩ := gapsB_ok e3
          by_cases e4 : 2 < (blF w 0).length
          · have e4' : (2 : Int) < ((blF w 0).length : Nat) := by omega
            have eR : errR c w g lo hi = 8 := by simp [errR, errQ, e1, e2, e3, e4]
            have eV : rdV c w g lo hi = .nil := by simp [rdV, eR]
            rw [eR, eV] at c47
            refine w9 ?_
            dsimp only [c9, sop, gop, nop, qmv, qsg, qex, qld, qcl, qln, qix, qbo, qt, qi]
            simp -implicitDefEqProofs only [go_sem, simprocAttr, o1, o2, o3, o4, l3, l4, Bool.and_self]
            refine W_opsD _ _ _ (Vs []) ?_ ?_
            · decide
            simp -implicitDefEqProofs only [go_sem, simprocAttr, o1, o2, o3, o4, f3, p3, f4, p4]
            refine call0 [24] false c16 (by simp -implicitDefEqProofs only [go_sem, simprocAttr]) (.inl rfl) ?_
            simp -implicitDefEqProofs only [go_sem, simprocAttr, hL, o1, o2]
            refine call1 [] false (c18) ?_
            simp -implicitDefEqProofs only [go_sem, simprocAttr]
            refine app_cp (by simp -implicitDefEqProofs only [go_sem, simprocAttr] <;> rfl) idx_22 hs (fun x hx => (ints_elem w x hx).1) (by simp -implicitDefEqProofs only [go_sem, simprocAttr]) (by simp [byt_3, ints]; omega) (by simp [maxLen, ints]; omega) ?_
            intro gw
            simp -implicitDefEqProofs only [go_sem, simprocAttr]
            refine app_cp (by simp -implicitDefEqProofs only [go_sem, simprocAttr] <;> rfl) idx_22 hg (fun x hx => (ints_elem g x hx).1) (by simp -implicitDefEqProofs only [go_sem, simprocAttr]) (by simp [byt_3, ints]; omega) (by simp [maxLen, ints]; omega) ?_
            intro gg
            simp -implicitDefEqProofs only [go_sem, simprocAttr, swC, spC]
            refine call0 [29, 32] false c47 (by simp -implicitDefEqProofs only [go_sem, simprocAttr, lstN]) (.inl rfl) ?_
            simp -implicitDefEqProofs only [go_sem, simprocAttr, o1, o2]
            refine call1 [] false (c23) ?_
            simp -implicitDefEqProofs only [go_sem, simprocAttr]
            refine call0 [] true c24w (by simp -implicitDefEqProofs only [go_sem, simprocAttr]) (.inr rfl) ?_
            simp -implicitDefEqProofs only [go_sem, simprocAttr]
            refine call0 [] true c24g (by simp -implicitDefEqProofs only [go_sem, simprocAttr]) (.inr rfl) ?_
            simp -implicitDefEqProofs only [go_sem, simprocAttr, o1, o2]
            refine call1 [] false (c22) ?_
            simp -implicitDefEqProofs only [go_sem, simprocAttr, o1, o2]
            refine call1 [] false (c25) ?_
            simp -implicitDefEqProofs only [go_sem, simprocAttr]
            refine call1 [] false (c27) ?_
            simp -implicitDefEqProofs only [go_sem, simprocAttr]
            refine call1 [] false (c48) ?_
            simp -implicitDefEqProofs only [go_sem, simprocAttr, e4']
            refine call1 [] false (t17) ?_
            simp -implicitDefEqProofs only [go_sem, simprocAttr]
            exact ret_fv
          · have e4' : ¬ (2 : Int) < ((blF w 0).length : Nat) := by omega
            by_cases e5 : (inB 1 400 lo && inB 1 400 hi) = false ∨ hi < lo
            · have eR : errR c w g lo hi = 3 := by simp only [errR, errQ, e1, e2, e3, if_neg e4, if_pos e5]; simp
              have eV : rdV c w g lo hi = .nil := by simp [rdV, eR]
              rw [eR, eV] at c47
              cases e6 : inB 1 hi lo
              · refine w9 ?_
                dsimp only [c9, sop, gop, nop, qmv, qsg, qex, qld, qcl, qln, qix, qbo, qt, qi]
                simp -implicitDefEqProofs only [go_sem, simprocAttr, o1, o2, o3, o4, l3, l4, Bool.and_self]
                refine W_opsD _ _ _ (Vs []) ?_ ?_
                · decide
                simp -implicitDefEqProofs only [go_sem, simprocAttr, o1, o2, o3, o4, f3, p3, f4, p4]
                refine call0 [24] false c16 (by simp -implicitDefEqProofs only [go_sem, simprocAttr]) (.inl rfl) ?_
                simp -implicitDefEqProofs only [go_sem, simprocAttr, hL, o1, o2]
                refine call1 [] false (c18) ?_
                simp -implicitDefEqProofs only [go_sem, simprocAttr]
                refine app_cp (by simp -implicitDefEqProofs only [go_sem, simprocAttr] <;> rfl) idx_22 hs (fun x hx => (ints_elem w x hx).1) (by simp -implicitDefEqProofs only [go_sem, simprocAttr]) (by simp [byt_3, ints]; omega) (by simp [maxLen, ints]; omega) ?_
                intro gw
                simp -implicitDefEqProofs only [go_sem, simprocAttr]
                refine app_cp (by simp -implicitDefEqProofs only [go_sem, simprocAttr] <;> rfl) idx_22 hg (fun x hx => (ints_elem g x hx).1) (by simp -implicitDefEqProofs only [go_sem, simprocAttr]) (by simp [byt_3, ints]; omega) (by simp [maxLen, ints]; omega) ?_
                intro gg
                simp -implicitDefEqProofs only [go_sem, simprocAttr, swC, spC]
                refine call0 [29, 32] false c47 (by simp -implicitDefEqProofs only [go_sem, simprocAttr, lstN]) (.inl rfl) ?_
                simp -implicitDefEqProofs only [go_sem, simprocAttr, o1, o2]
                refine call1 [] false (c23) ?_
                simp -implicitDefEqProofs only [go_sem, simprocAttr]
                refine call0 [] true c24w (by simp -implicitDefEqProofs only [go_sem, simprocAttr]) (.inr rfl) ?_
                simp -implicitDefEqProofs only [go_sem, simprocAttr]
                refine call0 [] true c24g (by simp -implicitDefEqProofs only [go_sem, simprocAttr]) (.inr rfl) ?_
                simp -implicitDefEqProofs only [go_sem, simprocAttr, o1, o2]
                refine call1 [] false (c22) ?_
                simp -implicitDefEqProofs only [go_sem, simprocAttr, o1, o2]
                refine call1 [] false (c25) ?_
                simp -implicitDefEqProofs only [go_sem, simprocAttr]
                refine call1 [] false (c27) ?_
                simp -implicitDefEqProofs only [go_sem, simprocAttr]
                refine call1 [] false (c48) ?_
                simp -implicitDefEqProofs only [go_sem, simprocAttr, e4']
                refine call1 [] false (t36 lo 1 hi) ?_
                simp -implicitDefEqProofs only [go_sem, simprocAttr, e6]
                refine call1 [] false (t17) ?_
                simp -implicitDefEqProofs only [go_sem, simprocAttr]
                exact ret_fv
              · have hh : (400 : Int) < hi := by
                  have := inB_iff.1 e6
                  rcases e5 with e5 | e5
                  · rw [Bool.and_eq_false_iff] at e5
                    rcases e5 with e5 | e5
                    · refine Classical.byContradiction fun hx => ?_
                      rw [inB_ok (by omega) (by omega)] at e5
                      simp at e5
                    · refine Classical.byContradiction fun hx => ?_
                      rw [inB_ok (by omega) (by omega)] at e5
                      simp at e5
                  · omega
                refine w9 ?_
                dsimp only [c9, sop, gop, nop, qmv, qsg, qex, qld, qcl, qln, qix, qbo, qt, qi]
                simp -implicitDefEqProofs only [go_sem, simprocAttr, o1, o2, o3, o4, l3, l4, Bool.and_self]
                refine W_opsD _ _ _ (Vs []) ?_ ?_
                · decide
                simp -implicitDefEqProofs only [go_sem, simprocAttr, o1, o2, o3, o4, f3, p3, f4, p4]
                refine call0 [24] false c16 (by simp -implicitDefEqProofs only [go_sem, simprocAttr]) (.inl rfl) ?_
                simp -implicitDefEqProofs only [go_sem, simprocAttr, hL, o1, o2]
                refine call1 [] false (c18) ?_
                simp -implicitDefEqProofs only [go_sem, simprocAttr]
                refine app_cp (by simp -implicitDefEqProofs only [go_sem, simprocAttr] <;> rfl) idx_22 hs (fun x hx => (ints_elem w x hx).1) (by simp -implicitDefEqProofs only [go_sem, simprocAttr]) (by simp [byt_3, ints]; omega) (by simp [maxLen, ints]; omega) ?_
                intro gw
                simp -implicitDefEqProofs only [go_sem, simprocAttr]
                refine app_cp (by simp -implicitDefEqProofs only [go_sem, simprocAttr] <;> rfl) idx_22 hg (fun x hx => (ints_elem g x hx).1) (by simp -implicitDefEqProofs only [go_sem, simprocAttr]) (by simp [byt_3, ints]; omega) (by simp [maxLen, ints]; omega) ?_
                intro gg
                simp -implicitDefEqProofs only [go_sem, simprocAttr, swC, spC]
                refine call0 [29, 32] false c47 (by simp -implicitDefEqProofs only [go_sem, simprocAttr, lstN]) (.inl rfl) ?_
                simp -implicitDefEqProofs only [go_sem, simprocAttr, o1, o2]
                refine call1 [] false (c23) ?_
                simp -implicitDefEqProofs only [go_sem, simprocAttr]
                refine call0 [] true c24w (by simp -implicitDefEqProofs only [go_sem, simprocAttr]) (.inr rfl) ?_
                simp -implicitDefEqProofs only [go_sem, simprocAttr]
                refine call0 [] true c24g (by simp -implicitDefEqProofs only [go_sem, simprocAttr]) (.inr rfl) ?_
                simp -implicitDefEqProofs only [go_sem, simprocAttr, o1, o2]
                refine call1 [] false (c22) ?_
                simp -implicitDefEqProofs only [go_sem, simprocAttr, o1, o2]
                refine call1 [] false (c25) ?_
                simp -implicitDefEqProofs only [go_sem, simprocAttr]
                refine call1 [] false (c27) ?_
                simp -implicitDefEqProofs only [go_sem, simprocAttr]
                refine call1 [] false (c48) ?_
                simp -implicitDefEqProofs only [go_sem, simprocAttr, e4']
                refine call1 [] false (t36 lo 1 hi) ?_
                simp -implicitDefEqProofs only [go_sem, simprocAttr, e6, hh]
                refine call1 [] false (t17) ?_
                simp -implicitDefEqProofs only [go_sem, simprocAttr]
                exact ret_fv
            · have eQ : errQ c w g lo hi = 0 := by simp only [errQ, e1, e2, e3, if_neg e4, if_neg e5]; simp
              simp only [not_or, Bool.not_eq_false, Bool.and_eq_true, inB_iff] at e5
              have e6 : inB 1 hi lo = true := inB_ok (by omega) (by omega)
              have hh : ¬ (400 : Int) < hi := by omega
              have eR : errR c w g lo hi = if (c.rd w g lo hi).1 then 0 else 9 := by simp [errR, eQ]
              have sg := sumI_nn g g2
              have c49 := t49 (lo := lo) (hi := hi) v ok hs q1 q2 q3 (by omega) hg (by omega) (fun x hx => by have := g2 x hx; omega) sg.1 (by omega)
              obtain ⟨rd1, rd2⟩ := rd_sem (c := c) (w := w) (g := g) (lo := lo) (hi := hi) ok.n1 (by omega)
              rw [← rd1, ← rd2] at c49
              have cl : ∀ l ∈ canV (c.rd w g lo hi).2.2 (blF w 0).length, l.length ≤ 8 := by
                rw [rd2]
                intro l hl
                rw [List.mem_map] at hl
                obtain ⟨i, _, rfl⟩ := hl
                refine Nat.le_trans (List.length_filter_le _ _) ?_
                have := ok.n1
                simpa [numFrom] using this
              have cln := canV_len (c.rd w g lo hi).2.2 (blF w 0).length
              have eV : rdV c w g lo hi = if (c.rd w g lo hi).1 then lstN (lnF (canV (c.rd w g lo hi).2.2 (blF w 0).length)) else .nil := by rw [rdV, eR]; cases (c.rd w g lo hi).1 <;> simp
              rw [eR, eV] at c47
              generalize canV (c.rd w g lo hi).2.2 (blF w 0).length = L at *
              have c40 := t40s (lnF_lists (L := L) fun l hl => by have := cl l hl; omega) (lists_of (W := L) fun l hl => by have := cl l hl; omega) (by omega) (fun l hl => by have := cl l hl; omega)
              cases hr : (c.rd w g lo hi).1
              · rw [hr] at c47 c49
                refine w9 ?_
                dsimp only [c9, sop, gop, nop, qmv, qsg, qex, qld, qcl, qln, qix, qbo, qt, qi]
                simp -implicitDefEqProofs only [go_sem, simprocAttr, o1, o2, o3, o4, l3, l4, Bool.and_self]
                refine W_opsD _ _ _ (Vs []) ?_ ?_
                · decide
                simp -implicitDefEqProofs only [go_sem, simprocAttr, o1, o2, o3, o4, f3, p3, f4, p4]
                refine call0 [24] false c16 (by simp -implicitDefEqProofs only [go_sem, simprocAttr]) (.inl rfl) ?_
                simp -implicitDefEqProofs only [go_sem, simprocAttr, hL, o1, o2]
                refine call1 [] false (c18) ?_
                simp -implicitDefEqProofs only [go_sem, simprocAttr]
                refine app_cp (by simp -implicitDefEqProofs only [go_sem, simprocAttr] <;> rfl) idx_22 hs (fun x hx => (ints_elem w x hx).1) (by simp -implicitDefEqProofs only [go_sem, simprocAttr]) (by simp [byt_3, ints]; omega) (by simp [maxLen, ints]; omega) ?_
                intro gw
                simp -implicitDefEqProofs only [go_sem, simprocAttr]
                refine app_cp (by simp -implicitDefEqProofs only [go_sem, simprocAttr] <;> rfl) idx_22 hg (fun x hx => (ints_elem g x hx).1) (by simp -implicitDefEqProofs only [go_sem, simprocAttr]) (by simp [byt_3, ints]; omega) (by simp [maxLen, ints]; omega) ?_
                intro gg
                simp -implicitDefEqProofs only [go_sem, simprocAttr, swC, spC]
                refine call0 [29, 32] false c47 (by simp -implicitDefEqProofs only [go_sem, simprocAttr, lstN]) (.inl rfl) ?_
                simp -implicitDefEqProofs only [go_sem, simprocAttr, o1, o2]
                refine call1 [] false (c23) ?_
                simp -implicitDefEqProofs only [go_sem, simprocAttr]
                refine call0 [] true c24w (by simp -implicitDefEqProofs only [go_sem, simprocAttr]) (.inr rfl) ?_
                simp -implicitDefEqProofs only [go_sem, simprocAttr]
                refine call0 [] true c24g (by simp -implicitDefEqProofs only [go_sem, simprocAttr]) (.inr rfl) ?_
                simp -implicitDefEqProofs only [go_sem, simprocAttr, o1, o2]
                refine call1 [] false (c22) ?_
                simp -implicitDefEqProofs only [go_sem, simprocAttr, o1, o2]
                refine call1 [] false (c25) ?_
                simp -implicitDefEqProofs only [go_sem, simprocAttr]
                refine call1 [] false (c27) ?_
                simp -implicitDefEqProofs only [go_sem, simprocAttr]
                refine call1 [] false (c48) ?_
                simp -implicitDefEqProofs only [go_sem, simprocAttr, e4']
                refine call1 [] false (t36 lo 1 hi) ?_
                simp -implicitDefEqProofs only [go_sem, simprocAttr, e6, hh, o1, o2, o3, o4]
                refine call1 [] false (c49) ?_
                simp -implicitDefEqProofs only [go_sem, simprocAttr]
                refine call1 [] false (t17) ?_
                simp -implicitDefEqProofs only [go_sem, simprocAttr]
                exact ret_fv
              · rw [hr] at c47 c49
                have oL := lstN_one (lnF L)
                refine w9 ?_
                dsimp only [c9, sop, gop, nop, qmv, qsg, qex, qld, qcl, qln, qix, qbo, qt, qi]
                simp -implicitDefEqProofs only [go_sem, simprocAttr, o1, o2, o3, o4, l3, l4, Bool.and_self]
                refine W_opsD _ _ _ (Vs []) ?_ ?_
                · decide
                simp -implicitDefEqProofs only [go_sem, simprocAttr, o1, o2, o3, o4, f3, p3, f4, p4]
                refine call0 [24] false c16 (by simp -implicitDefEqProofs only [go_sem, simprocAttr]) (.inl rfl) ?_
                simp -implicitDefEqProofs only [go_sem, simprocAttr, hL, o1, o2]
                refine call1 [] false (c18) ?_
                simp -implicitDefEqProofs only [go_sem, simprocAttr]
                refine app_cp (by simp -implicitDefEqProofs only [go_sem, simprocAttr] <;> rfl) idx_22 hs (fun x hx => (ints_elem w x hx).1) (by simp -implicitDefEqProofs only [go_sem, simprocAttr]) (by simp [byt_3, ints]; omega) (by simp [maxLen, ints]; omega) ?_
                intro gw
                simp -implicitDefEqProofs only [go_sem, simprocAttr]
                refine app_cp (by simp -implicitDefEqProofs only [go_sem, simprocAttr] <;> rfl) idx_22 hg (fun x hx => (ints_elem g x hx).1) (by simp -implicitDefEqProofs only [go_sem, simprocAttr]) (by simp [byt_3, ints]; omega) (by simp [maxLen, ints]; omega) ?_
                intro gg
                simp -implicitDefEqProofs only [go_sem, simprocAttr, swC, spC]
                refine call0 [29, 32] false c47 (by simp -implicitDefEqProofs only [go_sem, simprocAttr, lstN]) (.inl rfl) ?_
                simp -implicitDefEqProofs only [go_sem, simprocAttr, o1, o2]
                refine call1 [] false (c23) ?_
                simp -implicitDefEqProofs only [go_sem, simprocAttr]
                refine call0 [] true c24w (by simp -implicitDefEqProofs only [go_sem, simprocAttr]) (.inr rfl) ?_
                simp -implicitDefEqProofs only [go_sem, simprocAttr]
                refine call0 [] true c24g (by simp -implicitDefEqProofs only [go_sem, simprocAttr]) (.inr rfl) ?_
                simp -implicitDefEqProofs only [go_sem, simprocAttr, o1, o2]
                refine call1 [] false (c22) ?_
                simp -implicitDefEqProofs only [go_sem, simprocAttr, o1, o2]
                refine call1 [] false (c25) ?_
                simp -implicitDefEqProofs only [go_sem, simprocAttr]
                refine call1 [] false (c27) ?_
                simp -implicitDefEqProofs only [go_sem, simprocAttr]
                refine call1 [] false (c48) ?_
                simp -implicitDefEqProofs only [go_sem, simprocAttr, e4']
                refine call1 [] false (t36 lo 1 hi) ?_
                simp -implicitDefEqProofs only [go_sem, simprocAttr, e6, hh, o1, o2, o3, o4]
                refine call1 [] false (c49) ?_
                simp -implicitDefEqProofs only [go_sem, simprocAttr]
                refine call1 [] false (c40) ?_
                simp -implicitDefEqProofs only [go_sem, simprocAttr]
                refine call1 [] false (t17) ?_
                simp -implicitDefEqProofs only [go_sem, simprocAttr]
                exact ret_fv
    · have x1 : (errC c == 0) = false := by simpa using e1
      have x2 : (errC c != 0) = true := by simpa using e1
      have x3 : (errC c == errC c) = true := by simp
      have eR : errR c w g lo hi = errC c := by simp [errR, errQ, e1]
      have eV : rdV c w g lo hi = .nil := by simp [rdV, eR, e1]
      rw [eR, eV] at c47
      refine w9 ?_
      dsimp only [c9, sop, gop, nop, qmv, qsg, qex, qld, qcl, qln, qix, qbo, qt, qi]
      simp -implicitDefEqProofs only [go_sem, simprocAttr, o1, o2, o3, o4, l3, l4, Bool.and_self]
      refine W_opsD _ _ _ (Vs []) ?_ ?_
      · decide
      simp -implicitDefEqProofs only [go_sem, simprocAttr, o1, o2, o3, o4, f3, p3, f4, p4]
      refine call0 [24] false c16 (by simp -implicitDefEqProofs only [go_sem, simprocAttr]) (.inl rfl) ?_
      simp -implicitDefEqProofs only [go_sem, simprocAttr, hL, o1, o2]
      refine call1 [] false (c18) ?_
      simp -implicitDefEqProofs only [go_sem, simprocAttr]
      refine app_cp (by simp -implicitDefEqProofs only [go_sem, simprocAttr] <;> rfl) idx_22 hs (fun x hx => (ints_elem w x hx).1) (by simp -implicitDefEqProofs only [go_sem, simprocAttr]) (by simp [byt_3, ints]; omega) (by simp [maxLen, ints]; omega) ?_
      intro gw
      simp -implicitDefEqProofs only [go_sem, simprocAttr]
      refine app_cp (by simp -implicitDefEqProofs only [go_sem, simprocAttr] <;> rfl) idx_22 hg (fun x hx => (ints_elem g x hx).1) (by simp -implicitDefEqProofs only [go_sem, simprocAttr]) (by simp [byt_3, ints]; omega) (by simp [maxLen, ints]; omega) ?_
      intro gg
      simp -implicitDefEqProofs only [go_sem, simprocAttr, swC, spC]
      refine call0 [29, 32] false c47 (by simp -implicitDefEqProofs only [go_sem, simprocAttr, lstN]) (.inl rfl) ?_
      simp -implicitDefEqProofs only [go_sem, simprocAttr, o1, o2]
      refine call1 [] false (c23) ?_
      simp -implicitDefEqProofs only [go_sem, simprocAttr]
      refine call0 [] true c24w (by simp -implicitDefEqProofs only [go_sem, simprocAttr]) (.inr rfl) ?_
      simp -implicitDefEqProofs only [go_sem, simprocAttr]
      refine call0 [] true c24g (by simp -implicitDefEqProofs only [go_sem, simprocAttr]) (.inr rfl) ?_
      simp -implicitDefEqProofs only [go_sem, simprocAttr, o1, o2]
      refine call1 [] false (c22) ?_
      simp -implicitDefEqProofs only [go_sem, simprocAttr, x1, x2, x3]
      refine call1 [] false (t17) ?_
      simp -implicitDefEqProofs only [go_sem, simprocAttr]
      exact ret_fv
  · refine w9 ?_
    dsimp only [c9, sop, gop, nop, qmv, qsg, qex, qld, qcl, qln, qix, qbo, qt, qi]
    simp -implicitDefEqProofs only [go_sem, simprocAttr, o1, o2, o3, o4, l3, l4, Bool.and_self]
    refine W_opsD _ _ _ (Vs []) ?_ ?_
    · decide
    simp -implicitDefEqProofs only [go_sem, simprocAttr, o1, o2, o3, o4, f3, p3, f4, p4]
    refine call0 [24] false c16 (by simp -implicitDefEqProofs only [go_sem, simprocAttr]) (.inl rfl) ?_
    simp -implicitDefEqProofs only [go_sem, simprocAttr, hL]
    refine call1 [] false (t17) ?_
    simp -implicitDefEqProofs only [go_sem, simprocAttr]
    exact ret_fv
end S04

